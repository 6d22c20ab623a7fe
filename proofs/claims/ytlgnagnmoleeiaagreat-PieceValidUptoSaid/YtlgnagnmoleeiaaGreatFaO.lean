/-
 PIECE: a raw piece as an argument; how long its rows are.
-/
import Derived.Test.YtlgnagnmoleeiaaGreatLawO
import Derived.OpenShut
import Derived.Carry
import Derived.Test.YtlgnagnmoleeiaaGreatRows
import Derived.Test.YtlgnagnmoleeiaaGreatFaJ
import Derived.ChangeArms
namespace Go.Proofs.YtlgnagnmoleeiaaGreat.E
open Go.RowKit
set_option linter.unusedVariables false
/-- The cells of a type. -/
inductive Sh where
 | bb
 | ii (k : IntKind)
 | ss
 | row (e : List Sh)
def shapeF (g : TypeId → Option (List Sh)) (c : TypeId → Nat) : Nat → List Field → Option (List Sh)
 | _, [] => some []
 | o, f :: r => match g f.type, shapeF g c (o + c f.type) r with
   | some l, some m => match Nat.beq f.offset o && Nat.beq l.length (c f.type) with
     | true => some (l ++ m)
     | false => none
   | _, _ => none
def shape (P : Program) : Nat → TypeId → Option (List Sh)
 | 0, _ => none
 | n + 1, t => match P.underlying t with
   | some .bool => some [.bb]
   | some (.int k) => some [.ii k]
   | some .string => some [.ss]
   | some (.slice e) => match shape P n e with
     | some l => match Nat.beq l.length (P.cellsOf e) && Nat.blt 0 l.length with
       | true => some [.row l]
       | false => none
     | none => none
   | some (.struct fs) => match shapeF (shape P n) P.cellsOf 0 fs.toList with
     | some l => match Nat.beq l.length (P.cellsOf t) with
       | true => some l
       | false => none
     | none => none
   | _ => none
/-- What stands in such a cell. -/
inductive Fit : Sh → V → Prop
 | b (x : Bool) : Fit .bb (.k (.bool x))
 | i (k : IntKind) (n : Int) (h : (Lit.int k n).wf = true) : Fit (.ii k) (.k (.int k n))
 | s (x : ByteArray) (h : x.size ≤ maxLen) : Fit .ss (.k (.string x))
 | row (e : List Sh) (l : List (List V)) (h0 : l.length ≤ maxLen) (h1 : ∀ cs ∈ l, cs.length = e.length) (h2 : ∀ cs ∈ l, ∀ (j : Nat) (sh : Sh) (x : V), e[j]? = some sh → cs[j]? = some x → Fit sh x) : Fit (.row e) (.sl l)
def FitL (e : List Sh) (xs : List V) : Prop := xs.length = e.length ∧ ∀ (j : Nat) (sh : Sh) (x : V), e[j]? = some sh → xs[j]? = some x → Fit sh x
abbrev FA : Nat → Prop := fun _ => False
def RepL (w : World) (cs : List Value) (xs : List V) : Prop := ∀ (j : Nat) (v : Value) (d : V), cs[j]? = some v → xs[j]? = some d → Rep w FA no v d
theorem FitL.nil : FitL [] [] := ⟨rfl, fun j sh x h => by simp at h⟩
theorem FitL.one {q : Sh} {x : V} (h : Fit q x) : FitL [q] [x] := ⟨rfl, fun j sh y h1 h2 => by
 match j with
 | 0 => simp at h1 h2; subst h1; subst h2; exact h
 | j + 1 => simp at h1⟩
theorem FitL.app {e f : List Sh} {xs ys : List V} (h : FitL e xs) (g : FitL f ys) : FitL (e ++ f) (xs ++ ys) := by
 refine ⟨by rw [List.length_append, List.length_append, h.1, g.1], fun j sh x h1 h2 => ?_⟩
 by_cases hj : j < e.length
 · rw [List.getElem?_append_left hj] at h1
   rw [List.getElem?_append_left (by rw [h.1]; exact hj)] at h2
   exact h.2 j sh x h1 h2
 · rw [List.getElem?_append_right (by omega)] at h1
   rw [List.getElem?_append_right (by rw [h.1]; omega), h.1] at h2
   exact g.2 _ sh x h1 h2
section
variable {H : Type} {enc : TypeId × Value → H} {P : Program} {w : World}
theorem fields_rep {g : TypeId → Option (List Sh)} {c : TypeId → Nat} {α : Type} {tr : TypeId → List Value → Option α} {cs : List Value} (hg : ∀ t cs' x l, tr t cs' = some x → g t = some l → cs'.length = l.length ∧ ∃ xs, FitL l xs ∧ RepL w cs' xs) :
  ∀ (r : List Field) (o : Nat) (l : List Sh), shapeF g c o r = some l → (∀ f ∈ r, ∃ x, tr f.type ((cs.drop f.offset).take (c f.type)) = some x) → ∃ xs, FitL l xs ∧ RepL w (cs.drop o) xs
 | [], o, l, h, _ => by
  simp only [shapeF, Option.some.injEq] at h
  subst h
  exact ⟨[], FitL.nil, fun j v d _ h => by simp at h⟩
 | f :: r, o, l, h, ht => by
  simp only [shapeF] at h
  split at h
  · rename_i l1 l2 e1 e2
    split at h
    · rename_i hc
      simp only [Bool.and_eq_true, Nat.beq_eq] at hc
      injection h with h
      subst h
      obtain ⟨x, hx⟩ := ht f (List.mem_cons_self ..)
      obtain ⟨h1, xs, h2, h3⟩ := hg _ _ _ _ hx e1
      obtain ⟨ys, h4, h5⟩ := fields_rep hg r _ _ e2 fun f hf => ht f (List.mem_cons_of_mem _ hf)
      refine ⟨xs ++ ys, h2.app h4, fun j v d hv hd => ?_⟩
      rw [hc.1] at h3
      by_cases hj : j < l1.length
      · rw [List.getElem?_append_left (by rw [h2.1]; exact hj)] at hd
        refine h3 j v d ?_ hd
        rw [List.getElem?_take, if_pos (by omega)]
        exact hv
      · rw [List.getElem?_append_right (by rw [h2.1]; omega), h2.1] at hd
        refine h5 (j - l1.length) v d ?_ hd
        rw [List.getElem?_drop] at hv ⊢
        rw [show o + c f.type + (j - l1.length) = o + j by omega]
        exact hv
    · cases h
  · cases h
theorem trod_rep : ∀ (fuel n : Nat) (t : TypeId) (cs : List Value) (x : DataW H × List MemPlace) (l : List Sh), DataW.trod enc P w 0 (fun _ => true) true fuel t cs = some x → shape P n t = some l → cs.length = l.length ∧ ∃ xs, FitL l xs ∧ RepL w cs xs := by
 intro fuel
 induction fuel with
 | zero => intro n t cs x l h; simp [DataW.trod] at h
 | succ fuel ih =>
  intro n t cs x l h hs
  cases n with
  | zero => cases hs
  | succ n =>
   have one : ∀ {q : Sh} {v : Value} {d : V}, Fit q d → Rep w FA no v d → [v].length = [q].length ∧ ∃ xs, FitL [q] xs ∧ RepL w [v] xs := fun {q v d} h1 h2 => ⟨rfl, [d], FitL.one h1, fun j v' d' e1 e2 => by
    match j with
    | 0 => simp at e1 e2; subst e1; subst e2; exact h2
    | j + 1 => simp at e1⟩
   unfold shape at hs
   split at hs
   · rename_i hu
     injection hs with hs; subst hs
     unfold DataW.trod at h
     rw [hu] at h
     split at h <;> simp_all
     exact one (.b _) (.k _ _)
   · rename_i k hu
     injection hs with hs; subst hs
     unfold DataW.trod at h
     rw [hu] at h
     split at h <;> simp_all
     obtain ⟨⟨rfl, h1⟩, _⟩ := h
     exact one (.i _ _ h1) (.k _ _)
   · rename_i hu
     injection hs with hs; subst hs
     unfold DataW.trod at h
     rw [hu] at h
     split at h <;> simp_all
     exact one (.s _ h.1) (.k _ _)
   · rename_i e hu
     split at hs
     · rename_i l' hl'
       split at hs
       · rename_i hc
         simp only [Bool.and_eq_true, Nat.beq_eq, Nat.blt_eq] at hc
         injection hs with hs; subst hs
         rcases DataW.trod_slice hu h with ⟨rfl, _⟩ | ⟨a, len, cap, elems, rest, n', hn', rfl, rfl, hb, hl, hm, hlen, hel, hsp, hns⟩
         · exact one (.row l' [] (by simp) (by simp) (by simp)) (.sl _ none 0 0 0 l'.length [] (fun _ _ => undef) (Nat.zero_le _) (Nat.zero_le _) (by simp) (by simp) (by simp) (by simp))
         · obtain rfl : fuel = n' := by omega
           have he : ∀ i, i < len → ∃ xs, FitL l' xs ∧ ∀ j d, xs[j]? = some d → ∃ v, w.cell? (a.add (i * P.cellsOf e) |>.add j) = some v ∧ Rep w FA no v d := by
            intro i hi
            have hq := hel i hi
            rw [List.getElem?_eq_getElem (by omega)] at hq
            obtain ⟨cs', h1, h2⟩ := Option.bind_eq_some_iff.1 hq
            obtain ⟨h3, xs, h4, h5⟩ := ih n e cs' _ l' h2 hl'
            obtain ⟨_, h6, h7⟩ := World.cells?_some h1
            refine ⟨xs, h4, fun j d hd => ?_⟩
            have hjl := (List.getElem?_eq_some_iff.1 hd).1
            rw [h4.1] at hjl
            have hv : cs'[j]? = some cs'[j] := List.getElem?_eq_getElem (by omega)
            exact ⟨_, (h7 j (by omega)).trans hv, h5 j _ d hv hd⟩
           by_cases h0 : len = 0
           · subst h0
             exact one (.row l' [] (by simp) (by simp) (by simp)) (.sl _ (some a) 0 0 cap l'.length [] (fun _ _ => undef) (Nat.zero_le _) hm (by simp) (by simp) (by simp) (by simp))
           · have hch : ∃ F : Nat → List V, ∀ i, i < len → FitL l' (F i) ∧ ∀ j d, (F i)[j]? = some d → ∃ v, w.cell? (a.add (i * P.cellsOf e) |>.add j) = some v ∧ Rep w FA no v d :=
              ⟨fun i => if h : i < len then (he i h).choose else [], fun i hi => by simp only [dif_pos hi]; exact (he i hi).choose_spec⟩
             obtain ⟨F, hF⟩ := hch
             obtain ⟨b, o, spot⟩ := a
             have hspot : spot = none := by
              obtain ⟨h1, h2⟩ := hF 0 (by omega)
              have hlt : 0 < (F 0).length := by rw [h1.1]; exact hc.2
              obtain ⟨v, h3, _⟩ := h2 0 _ (List.getElem?_eq_getElem hlt)
              simpa [Addr.add] using World.cell?_spot h3
             subst hspot
             have hadd : ∀ i j : Nat, ((⟨b, o, none⟩ : Addr).add (i * P.cellsOf e)).add j = ⟨b, o + i * l'.length + j, none⟩ := fun i j => by rw [hc.1, Go.WideShapes.add_plain, Go.WideShapes.add_plain]
             let L : List (List V) := (List.range len).map F
             have hL : L.length = len := by simp [L]
             have hLi : ∀ i cs, L[i]? = some cs → i < len ∧ cs = F i := fun i cs hi => by
              have hlt := (List.getElem?_eq_some_iff.1 hi).1
              rw [hL] at hlt
              simp only [L, List.getElem?_map, List.getElem?_range hlt, Option.map_some, Option.some.injEq] at hi
              exact ⟨hlt, hi.symm⟩
             have hmem : ∀ cs ∈ L, ∃ i, i < len ∧ cs = F i := fun cs hcs => by
              obtain ⟨i, hi⟩ := List.getElem?_of_mem hcs
              exact ⟨i, hLi i cs hi⟩
             have hr : Rep w FA no (.slice (some ⟨b, o, none⟩) L.length cap) (.sl L) := by
              refine .sl _ _ b o cap l'.length L (fun i j => (w.cell? ⟨b, o + i * l'.length + j, none⟩).getD undef) (by omega) hm (fun _ => ⟨rfl, fun e => e, ?_⟩) (fun cs hcs => ?_) (fun i j cs x hi hj => ?_) (fun i j cs x hi hj => ?_)
              · obtain ⟨h1, h2⟩ := hF 0 (by omega)
                have hlt : 0 < (F 0).length := by rw [h1.1]; exact hc.2
                obtain ⟨v, h3, _⟩ := h2 0 _ (List.getElem?_eq_getElem hlt)
                rw [hadd] at h3
                exact cb_of h3
              · obtain ⟨i, hi, rfl⟩ := hmem cs hcs
                exact (hF i hi).1.1
              · obtain ⟨hi', rfl⟩ := hLi i cs hi
                obtain ⟨v, h3, _⟩ := (hF i hi').2 j x hj
                rw [hadd] at h3
                rw [h3]; rfl
              · obtain ⟨hi', rfl⟩ := hLi i cs hi
                obtain ⟨v, h3, h4⟩ := (hF i hi').2 j x hj
                rw [hadd] at h3
                rw [h3]
                exact h4
             rw [hL] at hr
             refine one (.row l' L (by omega) (fun cs hcs => ?_) (fun cs hcs j sh x h1 h2 => ?_)) hr
             · obtain ⟨i, hi, rfl⟩ := hmem cs hcs
               exact (hF i hi).1.1
             · obtain ⟨i, hi, rfl⟩ := hmem cs hcs
               exact (hF i hi).1.2 j sh x h1 h2
       · cases hs
     · cases hs
   · rename_i fs hu
     split at hs
     · rename_i l' hl'
       split at hs
       · rename_i hc
         have hc := Nat.eq_of_beq_eq_true hc
         injection hs with hs; subst hs
         obtain ⟨xs, n', hn', _, h1, h2, h3⟩ := DataW.trod_struct hu h
         obtain rfl : fuel = n' := by omega
         obtain ⟨ys, h4, h5⟩ := fields_rep (w := w) (c := P.cellsOf) (tr := fun t cs => DataW.trod enc P w 0 (fun _ => true) true fuel t cs) (cs := cs) (fun t cs' x l a b => ih n t cs' x l a b) fs.toList 0 l' hl' (fun f hf => by
          obtain ⟨i, hi⟩ := List.getElem?_of_mem hf
          have hi2 : fs[i]? = some f := by simpa using hi
          have hlt := (Array.getElem?_eq_some_iff.1 hi2).1
          have h6 := h3 i f hi2
          rw [List.getElem?_eq_getElem (by omega)] at h6
          exact ⟨_, h6⟩)
         exact ⟨by omega, ys, h4, by simpa using h5⟩
       · cases hs
     · cases hs
   · cases hs
/-- An argument of one cell. -/
theorem arg_1 {n : Nat} {t : TypeId} {v : Value} {d : DataW H} {ps : List MemPlace} {q : Sh} (h : DataW.Trod enc P w 0 (fun _ => true) true t v d ps) (hv : v.cells = #[v]) (hs : shape P n t = some [q]) : ∃ x, Fit q x ∧ Rep w FA no v x := by
 obtain ⟨fuel, hf⟩ := h
 rw [hv] at hf
 obtain ⟨_, xs, h1, h2⟩ := trod_rep fuel n t _ _ _ hf hs
 match xs, h1 with
 | [x], h1 => exact ⟨x, h1.2 0 q x rfl rfl, h2 0 v x rfl rfl⟩
/-- An argument of a struct's type. -/
theorem arg_ag {n : Nat} {t : TypeId} {cs : Array Value} {d : DataW H} {ps : List MemPlace} {l : List Sh} (h : DataW.Trod enc P w 0 (fun _ => true) true t (.agg cs) d ps) (hs : shape P n t = some l) : ∃ xs, FitL l xs ∧ Rep w FA no (.agg cs) (.ag xs) := by
 obtain ⟨fuel, hf⟩ := h
 obtain ⟨h0, xs, h1, h2⟩ := trod_rep fuel n t _ _ _ hf hs
 have h0 : cs.size = l.length := by simpa [Value.cells] using h0
 refine ⟨xs, h1, .ag _ cs xs (by rw [h1.1]; exact h0) fun j x hx => ?_⟩
 have hj := (List.getElem?_eq_some_iff.1 hx).1
 rw [h1.1] at hj
 refine h2 j _ x ?_ hx
 rw [Array.getD_eq_getD_getElem?, Array.getElem?_eq_getElem (by omega)]
 simp [Value.cells]
end
/-- A row of ints. -/
theorem Fit.ints {x : V} (h : Fit (.row [.ii .i64]) x) : ∃ l : List Int, x = zl l ∧ ∀ n ∈ l, W.Is64 n := by
 cases h with
 | row e l h0 h1 h2 =>
  clear h0
  suffices h : ∃ l' : List Int, l = zs l' ∧ ∀ n ∈ l', W.Is64 n by
   obtain ⟨l', rfl, h⟩ := h
   exact ⟨l', rfl, h⟩
  induction l with
  | nil => exact ⟨[], rfl, by simp⟩
  | cons a r ih =>
   obtain ⟨l', rfl, h3⟩ := ih (fun cs h => h1 cs (List.mem_cons_of_mem _ h)) (fun cs h => h2 cs (List.mem_cons_of_mem _ h))
   have hl := h1 a (List.mem_cons_self ..)
   have hf := h2 a (List.mem_cons_self ..)
   match a, hl with
   | [y], _ =>
    have hy := hf 0 _ y rfl rfl
    cases hy with
    | i k n hw => exact ⟨n :: l', rfl, fun m hm => by
      rcases List.mem_cons.1 hm with rfl | hm
      · exact is64_of hw
      · exact h3 m hm⟩
theorem FitL.inv {a : Sh} {r : List Sh} {xs : List V} (h : FitL (a :: r) xs) : ∃ x ys, xs = x :: ys ∧ Fit a x ∧ FitL r ys := by
 obtain ⟨h1, h2⟩ := h
 match xs, h1 with
 | x :: ys, h1 => exact ⟨x, ys, rfl, h2 0 a x rfl rfl, by simpa using h1, fun j sh y e1 e2 => h2 (j + 1) sh y (by simpa using e1) (by simpa using e2)⟩
theorem Fit.int {x : V} (h : Fit (.ii .i64) x) : ∃ n : Int, x = ni n ∧ W.Is64 n := by
 cases h with
 | i k n hw => exact ⟨n, rfl, is64_of hw⟩
theorem Fit.bool {x : V} (h : Fit .bb x) : ∃ b : Bool, x = bo b := by
 cases h with
 | b x => exact ⟨x, rfl⟩
end Go.Proofs.YtlgnagnmoleeiaaGreat.E
namespace Go.Proofs.YtlgnagnmoleeiaaGreat
section
variable {H : Type}
theorem bulk_one (d : DataW H) : 1 ≤ Rows.uptoBulk d := by
 cases d with
 | lit l => cases l <;> simp [Rows.uptoBulk]
 | nil => simp [Rows.uptoBulk]
 | ptr d => simp [Rows.uptoBulk]
 | slice elems spare => simp [Rows.uptoBulk]
 | agg parts => simp [Rows.uptoBulk]
 | iface t d => simp [Rows.uptoBulk]
 | map entries => simp [Rows.uptoBulk]
 | held h => simp [Rows.uptoBulk]
theorem bulk_len : ∀ l : List (DataW H), l.length ≤ Rows.uptoBulkAll l
 | [] => by simp
 | x :: r => by
  have h1 := bulk_one x
  have h2 := bulk_len r
  simp only [Rows.uptoBulkAll, List.length_cons]
  omega
theorem bulk_slice (elems spare : List (DataW H)) : elems.length + spare.length + 1 ≤ Rows.uptoBulk (.slice elems spare) := by
 have h1 := bulk_len elems
 have h2 := bulk_len spare
 simp only [Rows.uptoBulk]
 omega
end
end Go.Proofs.YtlgnagnmoleeiaaGreat
namespace Go.Proofs.YtlgnagnmoleeiaaGreat.E
open Go.RowKit
set_option linter.unusedVariables false
set_option linter.unusedSimpArgs false
/-- Slices are no longer than this. -/
def SzL (b : Nat) (cs : List Value) : Prop := ∀ (j : Nat) (a : Option Addr) (k c : Nat), cs[j]? = some (.slice a k c) → k ≤ b
section
variable {H : Type} {enc : TypeId × Value → H} {P : Program} {w : World}
theorem fields_bulk {g : TypeId → Option (List Sh)} {c : TypeId → Nat} {B : Nat} {tr : TypeId → List Value → Option (DataW H × List MemPlace)} {cs : List Value} (hg : ∀ t cs' x l, tr t cs' = some x → g t = some l → cs'.length = l.length ∧ SzL (Rows.uptoBulk x.1) cs') :
  ∀ (r : List Field) (o : Nat) (l : List Sh), shapeF g c o r = some l → (∀ f ∈ r, ∃ x, tr f.type ((cs.drop f.offset).take (c f.type)) = some x ∧ Rows.uptoBulk x.1 ≤ B) → SzL B ((cs.drop o).take l.length)
 | [], o, l, h, _ => by
  simp only [shapeF, Option.some.injEq] at h
  subst h
  intro j a k c h
  simp at h
 | f :: r, o, l, h, ht => by
  simp only [shapeF] at h
  split at h
  · rename_i l1 l2 e1 e2
    split at h
    · rename_i hc
      simp only [Bool.and_eq_true, Nat.beq_eq] at hc
      injection h with h
      subst h
      obtain ⟨x, hx, hB⟩ := ht f (List.mem_cons_self ..)
      obtain ⟨h1, h3⟩ := hg _ _ _ _ hx e1
      have h5 := fields_bulk hg r _ _ e2 fun f hf => ht f (List.mem_cons_of_mem _ hf)
      intro j a k c' hv
      rw [hc.1] at h3
      rw [List.getElem?_take] at hv
      split at hv
      case isFalse => cases hv
      rename_i hjl
      rw [List.length_append] at hjl
      by_cases hj : j < l1.length
      · refine Nat.le_trans (h3 j a k c' ?_) hB
        rw [List.getElem?_take, if_pos (by omega)]
        exact hv
      · refine h5 (j - l1.length) a k c' ?_
        rw [List.getElem?_take, if_pos (by omega)]
        rw [List.getElem?_drop] at hv ⊢
        rw [show o + c f.type + (j - l1.length) = o + j by omega]
        exact hv
    · cases h
  · cases h
theorem bulk_in : ∀ {l : List (DataW H)} {x : DataW H}, x ∈ l → Rows.uptoBulk x ≤ Rows.uptoBulkAll l
 | [], x, h => by cases h
 | y :: l, x, h => by
  simp only [Rows.uptoBulkAll]
  rcases List.mem_cons.1 h with rfl | h
  · omega
  · have := bulk_in h
    omega
theorem trod_bulk : ∀ (fuel n : Nat) (t : TypeId) (cs : List Value) (x : DataW H × List MemPlace) (l : List Sh), DataW.trod enc P w 0 (fun _ => true) true fuel t cs = some x → shape P n t = some l → cs.length = l.length ∧ SzL (Rows.uptoBulk x.1) cs := by
 intro fuel
 induction fuel with
 | zero => intro n t cs x l h; simp [DataW.trod] at h
 | succ fuel ih =>
  intro n t cs x l h hs
  refine ⟨(trod_rep _ _ _ _ _ _ h hs).1, ?_⟩
  cases n with
  | zero => cases hs
  | succ n =>
   have one : ∀ {v : Value} {b : Nat}, (∀ a k c, v = .slice a k c → k ≤ b) → SzL b [v] := fun {v b} hv j a k c hj => by
    match j with
    | 0 => simp at hj; exact hv a k c hj
    | j + 1 => simp at hj
   unfold shape at hs
   split at hs
   · rename_i hu
     unfold DataW.trod at h
     rw [hu] at h
     split at h <;> simp_all
     all_goals exact one fun a k c e => by cases e
   · rename_i k hu
     unfold DataW.trod at h
     rw [hu] at h
     split at h <;> simp_all
     all_goals exact one fun a k c e => by cases e
   · rename_i hu
     unfold DataW.trod at h
     rw [hu] at h
     split at h <;> simp_all
     all_goals exact one fun a k c e => by cases e
   · rename_i e hu
     rcases DataW.trod_slice hu h with ⟨rfl, rfl⟩ | ⟨a, len, cap, elems, rest, n', hn', rfl, rfl, hb, hl, hm, hlen, hel, hsp, hns⟩
     · exact one fun a k c e => by
        injection e with e1 e2 e3
        omega
     · refine one fun a k c e => ?_
       injection e with e1 e2 e3
       have := bulk_slice (elems.map (·.1)) (rest.map (·.1))
       rw [List.length_map, List.length_map] at this
       show k ≤ Rows.uptoBulk (.slice (elems.map (·.1)) (rest.map (·.1)))
       omega
   · rename_i fs hu
     split at hs
     · rename_i l' hl'
       split at hs
       · rename_i hc
         have hc := Nat.eq_of_beq_eq_true hc
         injection hs with hs; subst hs
         obtain ⟨xs, n', hn', hx, h1, h2, h3⟩ := DataW.trod_struct hu h
         obtain rfl : fuel = n' := by omega
         have key := fields_bulk (c := P.cellsOf) (B := Rows.uptoBulk x.1) (tr := fun t cs => DataW.trod enc P w 0 (fun _ => true) true fuel t cs) (cs := cs) (fun t cs' x l a b => ih n t cs' x l a b) fs.toList 0 l' hl' (fun f hf => by
          obtain ⟨i, hi⟩ := List.getElem?_of_mem hf
          have hi2 : fs[i]? = some f := by simpa using hi
          have hlt := (Array.getElem?_eq_some_iff.1 hi2).1
          have h6 := h3 i f hi2
          rw [List.getElem?_eq_getElem (by omega)] at h6
          refine ⟨_, h6, ?_⟩
          rw [hx]
          have := bulk_in (l := xs.map (·.1)) (x := (xs[i]'(by omega)).1) (List.mem_map.2 ⟨_, List.getElem_mem _, rfl⟩)
          simp only [Rows.uptoBulk]
          omega)
         rw [List.drop_zero, hc, ← h1, List.take_length] at key
         exact key
       · cases hs
     · cases hs
   · cases hs
/-- The rows of a struct that comes in. -/
theorem arg_len {n : Nat} {t : TypeId} {cs : Array Value} {d : DataW H} {ps : List MemPlace} {l : List Sh} {xs : List V} (h : DataW.Trod enc P w 0 (fun _ => true) true t (.agg cs) d ps) (hs : shape P n t = some l) (hr : Rep w FA no (.agg cs) (.ag xs)) {j : Nat} {r : List (List V)} (hj : xs[j]? = some (.sl r)) : r.length ≤ Rows.uptoBulk d := by
 obtain ⟨fuel, hf⟩ := h
 obtain ⟨h0, h1⟩ := trod_bulk fuel n t _ _ _ hf hs
 cases hr with
 | ag _ _ _ hsz h6 =>
  have h2 := h6 j _ hj
  have hlt := (List.getElem?_eq_some_iff.1 hj).1
  have h3 : cs.getD j undef = cs[j]'(by omega) := by rw [Array.getD_eq_getD_getElem?, Array.getElem?_eq_getElem (by omega)]; rfl
  have h4 : cs.toList[j]? = some (cs.getD j undef) := by
   rw [h3, List.getElem?_eq_getElem (by simpa using (by omega : j < cs.size))]
   simp
  generalize hu : cs.getD j undef = u at h2 h4
  cases h2 with
  | sl _ ad b off c z _ us q1 q2 q3 q4 q5 q6 => exact h1 j ad r.length c (by simpa [Value.cells] using h4)
end
abbrev shN : List Sh := [.bb, .row [.ii .i64], .bb, .row [.ii .i64]]
theorem FitL.num {xs : List V} (h : FitL shN xs) : ∃ n : RN, xs = cN n := by
 obtain ⟨a, r, rfl, ha, h⟩ := h.inv
 obtain ⟨b, r, rfl, hb, h⟩ := h.inv
 obtain ⟨c, r, rfl, hc, h⟩ := h.inv
 obtain ⟨d, r, rfl, hd, h⟩ := h.inv
 obtain rfl : r = [] := List.length_eq_zero_iff.1 h.1
 obtain ⟨s, rfl⟩ := ha.bool
 obtain ⟨l, rfl, _⟩ := hb.ints
 obtain ⟨t, rfl⟩ := hc.bool
 obtain ⟨m, rfl, _⟩ := hd.ints
 exact ⟨⟨s, l, t, m⟩, rfl⟩
theorem FitL.split {e f : List Sh} {xs : List V} (h : FitL (e ++ f) xs) : ∃ ys zs, xs = ys ++ zs ∧ FitL e ys ∧ FitL f zs := by
 have hl := h.1
 rw [List.length_append] at hl
 refine ⟨xs.take e.length, xs.drop e.length, (List.take_append_drop ..).symm, ⟨by rw [List.length_take]; omega, fun j sh x h1 h2 => ?_⟩, ⟨by rw [List.length_drop]; omega, fun j sh x h1 h2 => ?_⟩⟩
 · have hj := (List.getElem?_eq_some_iff.1 h1).1
   rw [List.getElem?_take, if_pos hj] at h2
   exact h.2 j sh x (by rw [List.getElem?_append_left hj]; exact h1) h2
 · rw [List.getElem?_drop] at h2
   exact h.2 (e.length + j) sh x (by rw [List.getElem?_append_right (by omega), Nat.add_sub_cancel_left]; exact h1) h2
theorem Fit.rows {e : List Sh} {x : V} {α : Type} {c : α → List V} (h : Fit (.row e) x) (hc : ∀ xs, FitL e xs → ∃ a, xs = c a) : ∃ L : List α, x = .sl (L.map c) := by
 cases h with
 | row e l h0 h1 h2 =>
  clear h0
  suffices h : ∃ L : List α, l = L.map c by
   obtain ⟨L, rfl⟩ := h
   exact ⟨L, rfl⟩
  induction l with
  | nil => exact ⟨[], rfl⟩
  | cons a r ih =>
   obtain ⟨L, rfl⟩ := ih (fun cs h => h1 cs (List.mem_cons_of_mem _ h)) (fun cs h => h2 cs (List.mem_cons_of_mem _ h))
   obtain ⟨y, rfl⟩ := hc a ⟨h1 a (List.mem_cons_self ..), h2 a (List.mem_cons_self ..)⟩
   exact ⟨y :: L, rfl⟩
abbrev shPiece : List Sh := [.ii .i64, .ii .i64, .row [.ii .i64, .ii .i64], .row [.bb], .row [.ii .i64]] ++ (shN ++ (shN ++ (shN ++ (shN ++ shN))))
end Go.Proofs.YtlgnagnmoleeiaaGreat.E
namespace Go.Proofs.YtlgnagnmoleeiaaGreat.E.Pc
open Go.RowKit
theorem fit_pts {x : V} (h : Fit (.row [.ii .i64, .ii .i64]) x) : ∃ l : List (Int × Int), x = .sl (Ct.ptR l) ∧ ∀ y ∈ l, W.Is64 y.1 ∧ W.Is64 y.2 := by
 cases h with
 | row e l h0 h1 h2 =>
  clear h0
  suffices h : ∃ l' : List (Int × Int), l = Ct.ptR l' ∧ ∀ y ∈ l', W.Is64 y.1 ∧ W.Is64 y.2 by
   obtain ⟨l', rfl, h⟩ := h
   exact ⟨l', rfl, h⟩
  induction l with
  | nil => exact ⟨[], rfl, by simp⟩
  | cons a r ih =>
   obtain ⟨l', rfl, h3⟩ := ih (fun cs h => h1 cs (List.mem_cons_of_mem _ h)) (fun cs h => h2 cs (List.mem_cons_of_mem _ h))
   have hl := h1 a (List.mem_cons_self ..)
   have hf := h2 a (List.mem_cons_self ..)
   match a, hl with
   | [y, z], _ =>
    obtain ⟨n, rfl, hn⟩ := (hf 0 _ y rfl rfl).int
    obtain ⟨m, rfl, hm⟩ := (hf 1 _ z rfl rfl).int
    refine ⟨(n, m) :: l', rfl, fun q hq => ?_⟩
    rcases List.mem_cons.1 hq with rfl | hq
    · exact ⟨hn, hm⟩
    · exact h3 q hq
theorem fit_wns {x : V} (h : Fit (.row [.bb]) x) : ∃ l : List Bool, x = .sl (Ct.wnR l) :=
 h.rows (c := fun b : Bool => [bo b]) fun xs h => by
  obtain ⟨a, r, rfl, ha, h⟩ := h.inv
  obtain rfl : r = [] := List.length_eq_zero_iff.1 h.1
  obtain ⟨b, rfl⟩ := ha.bool
  exact ⟨b, rfl⟩
/-- A raw piece. -/
theorem fit_piece {xs : List V} (h : FitL shPiece xs) : ∃ p : Pr, xs = p.v ∧ W.Is64 p.id ∧ W.Is64 p.home ∧ (∀ x ∈ p.rim, W.Is64 x.1 ∧ W.Is64 x.2) ∧ ∀ x ∈ p.marks, W.Is64 x := by
 obtain ⟨ys, zs_, rfl, h1, h⟩ := h.split
 obtain ⟨n1, zs_, rfl, k1, h⟩ := h.split
 obtain ⟨n2, zs_, rfl, k2, h⟩ := h.split
 obtain ⟨n3, zs_, rfl, k3, h⟩ := h.split
 obtain ⟨n4, n5, rfl, k4, k5⟩ := h.split
 obtain ⟨a, rfl⟩ := k1.num
 obtain ⟨b, rfl⟩ := k2.num
 obtain ⟨c, rfl⟩ := k3.num
 obtain ⟨d, rfl⟩ := k4.num
 obtain ⟨e, rfl⟩ := k5.num
 obtain ⟨x1, r, rfl, g1, h1⟩ := h1.inv
 obtain ⟨x2, r, rfl, g2, h1⟩ := h1.inv
 obtain ⟨x3, r, rfl, g3, h1⟩ := h1.inv
 obtain ⟨x4, r, rfl, g4, h1⟩ := h1.inv
 obtain ⟨x5, r, rfl, g5, h1⟩ := h1.inv
 obtain rfl : r = [] := List.length_eq_zero_iff.1 h1.1
 obtain ⟨id, rfl, hid⟩ := g1.int
 obtain ⟨home, rfl, hh⟩ := g2.int
 obtain ⟨rim, rfl, hr⟩ := fit_pts g3
 obtain ⟨worn, rfl⟩ := fit_wns g4
 obtain ⟨marks, rfl, hm⟩ := g5.ints
 exact ⟨⟨id, home, rim, worn, marks, a, b, c, d, e⟩, rfl, hid, hh, hr, hm⟩
/-- Rows of a raw piece are not long. -/
structure Pr.Up (p : Pr) (n : Nat) : Prop where
 r : p.rim.length ≤ n
 w : p.worn.length ≤ n
 m : p.marks.length ≤ n
 a : p.a.l.length ≤ n ∧ p.a.m.length ≤ n
 b : p.b.l.length ≤ n ∧ p.b.m.length ≤ n
 c : p.c.l.length ≤ n ∧ p.c.m.length ≤ n
 d : p.d.l.length ≤ n ∧ p.d.m.length ≤ n
 e : p.e.l.length ≤ n ∧ p.e.m.length ≤ n
theorem up_of {p : Pr} {n : Nat} (h : ∀ (j : Nat) (r : List (List V)), p.v[j]? = some (.sl r) → r.length ≤ n) : p.Up n where
 r := by have := h 2 (Ct.ptR p.rim) rfl; rwa [show (Ct.ptR p.rim).length = p.rim.length from List.length_map ..] at this
 w := by have := h 3 (Ct.wnR p.worn) rfl; rwa [show (Ct.wnR p.worn).length = p.worn.length from List.length_map ..] at this
 m := by have := h 4 (zs p.marks) rfl; rwa [zs_len] at this
 a := ⟨by have := h 6 (zs p.a.l) rfl; rwa [zs_len] at this, by have := h 8 (zs p.a.m) rfl; rwa [zs_len] at this⟩
 b := ⟨by have := h 10 (zs p.b.l) rfl; rwa [zs_len] at this, by have := h 12 (zs p.b.m) rfl; rwa [zs_len] at this⟩
 c := ⟨by have := h 14 (zs p.c.l) rfl; rwa [zs_len] at this, by have := h 16 (zs p.c.m) rfl; rwa [zs_len] at this⟩
 d := ⟨by have := h 18 (zs p.d.l) rfl; rwa [zs_len] at this, by have := h 20 (zs p.d.m) rfl; rwa [zs_len] at this⟩
 e := ⟨by have := h 22 (zs p.e.l) rfl; rwa [zs_len] at this, by have := h 24 (zs p.e.m) rfl; rwa [zs_len] at this⟩
theorem bdl_len {l : List Int} {k : Nat} (h : 30 * l.length ≤ k) : I.Can l → I.Bd k (I.val l) := fun hc => by
 have h1 := I.val_lt hc.1
 have h4 := can_val0 hc
 have key : ∀ n : Nat, I.pw n ≤ ((2 ^ (30 * n) : Nat) : Int) := fun n => by
  unfold I.pw
  have : (1000000000 : Nat) ^ n ≤ (2 ^ 30) ^ n := Nat.pow_le_pow_left (by decide) n
  rw [← Nat.pow_mul] at this
  exact Int.ofNat_le.2 this
 have h2 := key l.length
 have h3 : (2 : Nat) ^ (30 * l.length) ≤ 2 ^ k := Nat.pow_le_pow_right (by omega) h
 unfold I.Bd
 generalize (2 : Nat) ^ k = X at *
 generalize (2 : Nat) ^ (30 * l.length) = Y at *
 omega
theorem bn_len {a : RN} {k : Nat} (h1 : 30 * a.l.length ≤ k) (h2 : 30 * a.m.length ≤ k) : Bn k a := ⟨bdl_len h1, bdl_len h2⟩
end Go.Proofs.YtlgnagnmoleeiaaGreat.E.Pc
