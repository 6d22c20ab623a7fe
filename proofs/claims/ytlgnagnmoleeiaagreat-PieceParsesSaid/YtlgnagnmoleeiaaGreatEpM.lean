/-
 ARGUMENTS: bytes.
-/
import Derived.Test.YtlgnagnmoleeiaaGreatEpN
import Derived.Test.YtlgnagnmoleeiaaGreatOpenI
import Derived.OpenShut
import Derived.Carry
import Derived.Test.YtlgnagnmoleeiaaGreatRows
import Derived.Test.YtlgnagnmoleeiaaGreatFbD
import Derived.ChangeArms
import Derived.Test.YtlgnagnmoleeiaaGreatFbI
import Derived.Test.YtlgnagnmoleeiaaGreatFaJ
namespace Go.Proofs.YtlgnagnmoleeiaaGreat.E
open Go.RowKit
set_option linter.unusedVariables false
theorem cb_of {w : World} {b o : Nat} {v : Value} (h : w.cell? ⟨b, o, none⟩ = some v) : CB w b := by
 unfold World.cell? at h
 split at h
 · rename_i cs T fr hb
   exact ⟨cs, T, fr, hb⟩
 · cases h
def Rt (X : World → Value → Prop) (w : World) (e : Ending) (w' : World) : Prop := ∃ v, e = .returned v ∧ X w' v ∧ Below w.heap.size w w'
theorem back {P : Program} {f : FuncId} {ds : List V} {d : V} (h : Pure P f ds d) {w : World} {args : Array Value} (ha : Reps w (fun _ => False) no args ds) : Calls P f args w (Rt (fun w v => Rep w (fun _ => False) no v d) w) :=
 (h.2 w (fun _ => False) args (fun _ h => h.elim) ha).mono fun e w' h => h
theorem to_tt {w w' : World} {e : Ending} (h : Rt (fun w v => Rep w (fun _ => False) no v (bo true)) w e w') : e = .returned (.bool true) ∧ Below w.heap.size w w' := by
 obtain ⟨v, rfl, h1, h2⟩ := h
 exact ⟨by rw [Rep.k_inv h1], h2⟩
/-- A law of any arguments. -/
theorem lawG {f : FuncId} {us : List Value} {ds : List V} {w : World} (h : Pure PP f ds (bo true)) (hg : Glo w (fun _ => False)) (hl : us.length = ds.length) (hr : ∀ j, j < ds.length → Rep w (fun _ => False) no (us.getD j undef) (ds.getD j .un)) :
    Calls PP f us.toArray w fun e w' => e = .returned (.bool true) ∧ Below w.heap.size w w' :=
 (back h (reps_of hl hg hr)).mono fun _ _ => to_tt
theorem all4 {p : Nat → Prop} (h0 : p 0) (h1 : p 1) (h2 : p 2) (h3 : p 3) : ∀ j, j < 4 → p j := fun j hj => by
 match j, hj with
 | 0, _ => exact h0
 | 1, _ => exact h1
 | 2, _ => exact h2
 | 3, _ => exact h3
theorem all5 {p : Nat → Prop} (h0 : p 0) (h1 : p 1) (h2 : p 2) (h3 : p 3) (h4 : p 4) : ∀ j, j < 5 → p j := fun j hj => by
 match j, hj with
 | 0, _ => exact h0
 | 1, _ => exact h1
 | 2, _ => exact h2
 | 3, _ => exact h3
 | 4, _ => exact h4
end Go.Proofs.YtlgnagnmoleeiaaGreat.E
namespace Go.Proofs.YtlgnagnmoleeiaaGreat.E
open Go.RowKit
set_option linter.unusedVariables false
/-- The cells of a type. -/
inductive Sh where
 | bb
 | ii (k : IntKind)
 | ss
 | row (e : List Sh)
def shapeF (g : TypeId → Option (List Sh)) (c : TypeId → Nat) : Nat → List Field → Option (List Sh)
 | _, [] => some []
 | o, f :: r => match g f.type, shapeF g c (o + c f.type) r with
   | some l, some m => match Nat.beq f.offset o && Nat.beq l.length (c f.type) with
     | true => some (l ++ m)
     | false => none
   | _, _ => none
def shape (P : Program) : Nat → TypeId → Option (List Sh)
 | 0, _ => none
 | n + 1, t => match P.underlying t with
   | some .bool => some [.bb]
   | some (.int k) => some [.ii k]
   | some .string => some [.ss]
   | some (.slice e) => match shape P n e with
     | some l => match Nat.beq l.length (P.cellsOf e) && Nat.blt 0 l.length with
       | true => some [.row l]
       | false => none
     | none => none
   | some (.struct fs) => match shapeF (shape P n) P.cellsOf 0 fs.toList with
     | some l => match Nat.beq l.length (P.cellsOf t) with
       | true => some l
       | false => none
     | none => none
   | _ => none
/-- What stands in such a cell. -/
inductive Fit : Sh → V → Prop
 | b (x : Bool) : Fit .bb (.k (.bool x))
 | i (k : IntKind) (n : Int) (h : (Lit.int k n).wf = true) : Fit (.ii k) (.k (.int k n))
 | s (x : ByteArray) (h : x.size ≤ maxLen) : Fit .ss (.k (.string x))
 | row (e : List Sh) (l : List (List V)) (h0 : l.length ≤ maxLen) (h1 : ∀ cs ∈ l, cs.length = e.length) (h2 : ∀ cs ∈ l, ∀ (j : Nat) (sh : Sh) (x : V), e[j]? = some sh → cs[j]? = some x → Fit sh x) : Fit (.row e) (.sl l)
def FitL (e : List Sh) (xs : List V) : Prop := xs.length = e.length ∧ ∀ (j : Nat) (sh : Sh) (x : V), e[j]? = some sh → xs[j]? = some x → Fit sh x
abbrev FA : Nat → Prop := fun _ => False
def RepL (w : World) (cs : List Value) (xs : List V) : Prop := ∀ (j : Nat) (v : Value) (d : V), cs[j]? = some v → xs[j]? = some d → Rep w FA no v d
theorem FitL.nil : FitL [] [] := ⟨rfl, fun j sh x h => by simp at h⟩
theorem FitL.one {q : Sh} {x : V} (h : Fit q x) : FitL [q] [x] := ⟨rfl, fun j sh y h1 h2 => by
 match j with
 | 0 => simp at h1 h2; subst h1; subst h2; exact h
 | j + 1 => simp at h1⟩
theorem FitL.app {e f : List Sh} {xs ys : List V} (h : FitL e xs) (g : FitL f ys) : FitL (e ++ f) (xs ++ ys) := by
 refine ⟨by rw [List.length_append, List.length_append, h.1, g.1], fun j sh x h1 h2 => ?_⟩
 by_cases hj : j < e.length
 · rw [List.getElem?_append_left hj] at h1
   rw [List.getElem?_append_left (by rw [h.1]; exact hj)] at h2
   exact h.2 j sh x h1 h2
 · rw [List.getElem?_append_right (by omega)] at h1
   rw [List.getElem?_append_right (by rw [h.1]; omega), h.1] at h2
   exact g.2 _ sh x h1 h2
section
variable {H : Type} {enc : TypeId × Value → H} {P : Program} {w : World}
theorem fields_rep {g : TypeId → Option (List Sh)} {c : TypeId → Nat} {α : Type} {tr : TypeId → List Value → Option α} {cs : List Value} (hg : ∀ t cs' x l, tr t cs' = some x → g t = some l → cs'.length = l.length ∧ ∃ xs, FitL l xs ∧ RepL w cs' xs) :
  ∀ (r : List Field) (o : Nat) (l : List Sh), shapeF g c o r = some l → (∀ f ∈ r, ∃ x, tr f.type ((cs.drop f.offset).take (c f.type)) = some x) → ∃ xs, FitL l xs ∧ RepL w (cs.drop o) xs
 | [], o, l, h, _ => by
  simp only [shapeF, Option.some.injEq] at h
  subst h
  exact ⟨[], FitL.nil, fun j v d _ h => by simp at h⟩
 | f :: r, o, l, h, ht => by
  simp only [shapeF] at h
  split at h
  · rename_i l1 l2 e1 e2
    split at h
    · rename_i hc
      simp only [Bool.and_eq_true, Nat.beq_eq] at hc
      injection h with h
      subst h
      obtain ⟨x, hx⟩ := ht f (List.mem_cons_self ..)
      obtain ⟨h1, xs, h2, h3⟩ := hg _ _ _ _ hx e1
      obtain ⟨ys, h4, h5⟩ := fields_rep hg r _ _ e2 fun f hf => ht f (List.mem_cons_of_mem _ hf)
      refine ⟨xs ++ ys, h2.app h4, fun j v d hv hd => ?_⟩
      rw [hc.1] at h3
      by_cases hj : j < l1.length
      · rw [List.getElem?_append_left (by rw [h2.1]; exact hj)] at hd
        refine h3 j v d ?_ hd
        rw [List.getElem?_take, if_pos (by omega)]
        exact hv
      · rw [List.getElem?_append_right (by rw [h2.1]; omega), h2.1] at hd
        refine h5 (j - l1.length) v d ?_ hd
        rw [List.getElem?_drop] at hv ⊢
        rw [show o + c f.type + (j - l1.length) = o + j by omega]
        exact hv
    · cases h
  · cases h
theorem trod_rep : ∀ (fuel n : Nat) (t : TypeId) (cs : List Value) (x : DataW H × List MemPlace) (l : List Sh), DataW.trod enc P w 0 (fun _ => true) true fuel t cs = some x → shape P n t = some l → cs.length = l.length ∧ ∃ xs, FitL l xs ∧ RepL w cs xs := by
 intro fuel
 induction fuel with
 | zero => intro n t cs x l h; simp [DataW.trod] at h
 | succ fuel ih =>
  intro n t cs x l h hs
  cases n with
  | zero => cases hs
  | succ n =>
   have one : ∀ {q : Sh} {v : Value} {d : V}, Fit q d → Rep w FA no v d → [v].length = [q].length ∧ ∃ xs, FitL [q] xs ∧ RepL w [v] xs := fun {q v d} h1 h2 => ⟨rfl, [d], FitL.one h1, fun j v' d' e1 e2 => by
    match j with
    | 0 => simp at e1 e2; subst e1; subst e2; exact h2
    | j + 1 => simp at e1⟩
   unfold shape at hs
   split at hs
   · rename_i hu
     injection hs with hs; subst hs
     unfold DataW.trod at h
     rw [hu] at h
     split at h <;> simp_all
     exact one (.b _) (.k _ _)
   · rename_i k hu
     injection hs with hs; subst hs
     unfold DataW.trod at h
     rw [hu] at h
     split at h <;> simp_all
     obtain ⟨⟨rfl, h1⟩, _⟩ := h
     exact one (.i _ _ h1) (.k _ _)
   · rename_i hu
     injection hs with hs; subst hs
     unfold DataW.trod at h
     rw [hu] at h
     split at h <;> simp_all
     exact one (.s _ h.1) (.k _ _)
   · rename_i e hu
     split at hs
     · rename_i l' hl'
       split at hs
       · rename_i hc
         simp only [Bool.and_eq_true, Nat.beq_eq, Nat.blt_eq] at hc
         injection hs with hs; subst hs
         rcases DataW.trod_slice hu h with ⟨rfl, _⟩ | ⟨a, len, cap, elems, rest, n', hn', rfl, rfl, hb, hl, hm, hlen, hel, hsp, hns⟩
         · exact one (.row l' [] (by simp) (by simp) (by simp)) (.sl _ none 0 0 0 l'.length [] (fun _ _ => undef) (Nat.zero_le _) (Nat.zero_le _) (by simp) (by simp) (by simp) (by simp))
         · obtain rfl : fuel = n' := by omega
           have he : ∀ i, i < len → ∃ xs, FitL l' xs ∧ ∀ j d, xs[j]? = some d → ∃ v, w.cell? (a.add (i * P.cellsOf e) |>.add j) = some v ∧ Rep w FA no v d := by
            intro i hi
            have hq := hel i hi
            rw [List.getElem?_eq_getElem (by omega)] at hq
            obtain ⟨cs', h1, h2⟩ := Option.bind_eq_some_iff.1 hq
            obtain ⟨h3, xs, h4, h5⟩ := ih n e cs' _ l' h2 hl'
            obtain ⟨_, h6, h7⟩ := World.cells?_some h1
            refine ⟨xs, h4, fun j d hd => ?_⟩
            have hjl := (List.getElem?_eq_some_iff.1 hd).1
            rw [h4.1] at hjl
            have hv : cs'[j]? = some cs'[j] := List.getElem?_eq_getElem (by omega)
            exact ⟨_, (h7 j (by omega)).trans hv, h5 j _ d hv hd⟩
           by_cases h0 : len = 0
           · subst h0
             exact one (.row l' [] (by simp) (by simp) (by simp)) (.sl _ (some a) 0 0 cap l'.length [] (fun _ _ => undef) (Nat.zero_le _) hm (by simp) (by simp) (by simp) (by simp))
           · have hch : ∃ F : Nat → List V, ∀ i, i < len → FitL l' (F i) ∧ ∀ j d, (F i)[j]? = some d → ∃ v, w.cell? (a.add (i * P.cellsOf e) |>.add j) = some v ∧ Rep w FA no v d :=
              ⟨fun i => if h : i < len then (he i h).choose else [], fun i hi => by simp only [dif_pos hi]; exact (he i hi).choose_spec⟩
             obtain ⟨F, hF⟩ := hch
             obtain ⟨b, o, spot⟩ := a
             have hspot : spot = none := by
              obtain ⟨h1, h2⟩ := hF 0 (by omega)
              have hlt : 0 < (F 0).length := by rw [h1.1]; exact hc.2
              obtain ⟨v, h3, _⟩ := h2 0 _ (List.getElem?_eq_getElem hlt)
              simpa [Addr.add] using World.cell?_spot h3
             subst hspot
             have hadd : ∀ i j : Nat, ((⟨b, o, none⟩ : Addr).add (i * P.cellsOf e)).add j = ⟨b, o + i * l'.length + j, none⟩ := fun i j => by rw [hc.1, Go.WideShapes.add_plain, Go.WideShapes.add_plain]
             let L : List (List V) := (List.range len).map F
             have hL : L.length = len := by simp [L]
             have hLi : ∀ i cs, L[i]? = some cs → i < len ∧ cs = F i := fun i cs hi => by
              have hlt := (List.getElem?_eq_some_iff.1 hi).1
              rw [hL] at hlt
              simp only [L, List.getElem?_map, List.getElem?_range hlt, Option.map_some, Option.some.injEq] at hi
              exact ⟨hlt, hi.symm⟩
             have hmem : ∀ cs ∈ L, ∃ i, i < len ∧ cs = F i := fun cs hcs => by
              obtain ⟨i, hi⟩ := List.getElem?_of_mem hcs
              exact ⟨i, hLi i cs hi⟩
             have hr : Rep w FA no (.slice (some ⟨b, o, none⟩) L.length cap) (.sl L) := by
              refine .sl _ _ b o cap l'.length L (fun i j => (w.cell? ⟨b, o + i * l'.length + j, none⟩).getD undef) (by omega) hm (fun _ => ⟨rfl, fun e => e, ?_⟩) (fun cs hcs => ?_) (fun i j cs x hi hj => ?_) (fun i j cs x hi hj => ?_)
              · obtain ⟨h1, h2⟩ := hF 0 (by omega)
                have hlt : 0 < (F 0).length := by rw [h1.1]; exact hc.2
                obtain ⟨v, h3, _⟩ := h2 0 _ (List.getElem?_eq_getElem hlt)
                rw [hadd] at h3
                exact cb_of h3
              · obtain ⟨i, hi, rfl⟩ := hmem cs hcs
                exact (hF i hi).1.1
              · obtain ⟨hi', rfl⟩ := hLi i cs hi
                obtain ⟨v, h3, _⟩ := (hF i hi').2 j x hj
                rw [hadd] at h3
                rw [h3]; rfl
              · obtain ⟨hi', rfl⟩ := hLi i cs hi
                obtain ⟨v, h3, h4⟩ := (hF i hi').2 j x hj
                rw [hadd] at h3
                rw [h3]
                exact h4
             rw [hL] at hr
             refine one (.row l' L (by omega) (fun cs hcs => ?_) (fun cs hcs j sh x h1 h2 => ?_)) hr
             · obtain ⟨i, hi, rfl⟩ := hmem cs hcs
               exact (hF i hi).1.1
             · obtain ⟨i, hi, rfl⟩ := hmem cs hcs
               exact (hF i hi).1.2 j sh x h1 h2
       · cases hs
     · cases hs
   · rename_i fs hu
     split at hs
     · rename_i l' hl'
       split at hs
       · rename_i hc
         have hc := Nat.eq_of_beq_eq_true hc
         injection hs with hs; subst hs
         obtain ⟨xs, n', hn', _, h1, h2, h3⟩ := DataW.trod_struct hu h
         obtain rfl : fuel = n' := by omega
         obtain ⟨ys, h4, h5⟩ := fields_rep (w := w) (c := P.cellsOf) (tr := fun t cs => DataW.trod enc P w 0 (fun _ => true) true fuel t cs) (cs := cs) (fun t cs' x l a b => ih n t cs' x l a b) fs.toList 0 l' hl' (fun f hf => by
          obtain ⟨i, hi⟩ := List.getElem?_of_mem hf
          have hi2 : fs[i]? = some f := by simpa using hi
          have hlt := (Array.getElem?_eq_some_iff.1 hi2).1
          have h6 := h3 i f hi2
          rw [List.getElem?_eq_getElem (by omega)] at h6
          exact ⟨_, h6⟩)
         exact ⟨by omega, ys, h4, by simpa using h5⟩
       · cases hs
     · cases hs
   · cases hs
/-- An argument of one cell. -/
theorem arg_1 {n : Nat} {t : TypeId} {v : Value} {d : DataW H} {ps : List MemPlace} {q : Sh} (h : DataW.Trod enc P w 0 (fun _ => true) true t v d ps) (hv : v.cells = #[v]) (hs : shape P n t = some [q]) : ∃ x, Fit q x ∧ Rep w FA no v x := by
 obtain ⟨fuel, hf⟩ := h
 rw [hv] at hf
 obtain ⟨_, xs, h1, h2⟩ := trod_rep fuel n t _ _ _ hf hs
 match xs, h1 with
 | [x], h1 => exact ⟨x, h1.2 0 q x rfl rfl, h2 0 v x rfl rfl⟩
end
/-- A row of ints. -/
theorem Fit.ints {x : V} (h : Fit (.row [.ii .i64]) x) : ∃ l : List Int, x = zl l ∧ ∀ n ∈ l, W.Is64 n := by
 cases h with
 | row e l h0 h1 h2 =>
  clear h0
  suffices h : ∃ l' : List Int, l = zs l' ∧ ∀ n ∈ l', W.Is64 n by
   obtain ⟨l', rfl, h⟩ := h
   exact ⟨l', rfl, h⟩
  induction l with
  | nil => exact ⟨[], rfl, by simp⟩
  | cons a r ih =>
   obtain ⟨l', rfl, h3⟩ := ih (fun cs h => h1 cs (List.mem_cons_of_mem _ h)) (fun cs h => h2 cs (List.mem_cons_of_mem _ h))
   have hl := h1 a (List.mem_cons_self ..)
   have hf := h2 a (List.mem_cons_self ..)
   match a, hl with
   | [y], _ =>
    have hy := hf 0 _ y rfl rfl
    cases hy with
    | i k n hw => exact ⟨n :: l', rfl, fun m hm => by
      rcases List.mem_cons.1 hm with rfl | hm
      · exact is64_of hw
      · exact h3 m hm⟩
end Go.Proofs.YtlgnagnmoleeiaaGreat.E


namespace Go.Proofs.YtlgnagnmoleeiaaGreat.E.Pc
open Go.RowKit
set_option linter.unusedVariables false
set_option linter.unusedSimpArgs false
section
variable {l : List Int} {p q : Pr} {how by_ : Int} {n i : Nat} {a : RN}
/-- The piece made of numbers is one of them. -/
theorem p12P_pr (l : List Int) (P : List (Int × Int)) (hs : ∀ c ∈ P, (-12 ≤ c.1 ∧ c.1 ≤ 12) ∧ (-12 ≤ c.2 ∧ c.2 ≤ 12)) (hl : 3 ≤ P.length ∧ P.length ≤ 5) (b1 : Bq 8 (Ct.p12P l P).tol) (b2 : Bq 8 (Ct.p12P l P).light) (b3 : Bq 20 (Ct.p12P l P).heavy) (b4 : Bq 8 (Ct.p12P l P).str) (b5 : Bq 8 (Ct.p12P l P).rough) : (prOf (Ct.p12P l P)).Ok ∧ (prOf (Ct.p12P l P)).Le 5 ∧ rngB (Ct.p12P l P).id (Ct.p12P l P).home (Ct.p12P l P).rim (Ct.p12P l P).marks = true ∧ (Ct.p12P l P).worn.length = (Ct.p12P l P).rim.length ∧ (Ct.p12P l P).marks.length = (Ct.p12P l P).rim.length := by
 have w1 : (Ct.p12P l P).worn.length = P.length := by
  show (Ct.pwn l P.length P.length).length = P.length
  unfold Ct.pwn
  rw [List.length_map, List.length_range]
 have m1 : (Ct.p12P l P).marks.length = P.length := by
  show (Ct.pmk l P.length P.length).length = P.length
  unfold Ct.pmk
  rw [List.length_map, List.length_range]
 have a8 := atz_in l 8 39
 have a9 := atz_in l 9 4
 have mm : ∀ x ∈ (Ct.p12P l P).marks, 0 ≤ x ∧ x ≤ 4 := fun x hx => by
  have hx : x ∈ Ct.pmk l P.length P.length := hx
  unfold Ct.pmk at hx
  obtain ⟨i, _, rfl⟩ := List.mem_map.1 hx
  have h1 := atz_in l (20 + i) 4
  split
  · rw [Int.tdiv_eq_ediv_of_nonneg h1.1]; omega
  · omega
 refine ⟨⟨⟨by show _ ≤ atz l 8 39; omega, by show atz l 8 39 ≤ _; omega⟩, ⟨by show _ ≤ atz l 9 4; omega, by show atz l 9 4 ≤ _; omega⟩, fun x hx => ?_, fun x hx => ?_, by show P.length ≤ _; omega, by show (Ct.p12P l P).worn.length ≤ _; omega, by show (Ct.p12P l P).marks.length ≤ _; omega, bn_of (b1.mono (by omega)), bn_of (b2.mono (by omega)), bn_of (b3.mono (by omega)), bn_of (b4.mono (by omega)), bn_of (b5.mono (by omega))⟩, ⟨hl.2, by show (Ct.p12P l P).worn.length ≤ _; omega, by show (Ct.p12P l P).marks.length ≤ _; omega⟩, ?_, w1, m1⟩
 · have := hs x hx
   exact ⟨⟨by omega, by omega⟩, ⟨by omega, by omega⟩⟩
 · have := mm x hx
   exact ⟨by omega, by omega⟩
 · show rngB (atz l 8 39) (atz l 9 4) P (Ct.p12P l P).marks = true
   unfold rngB inW
   rw [Bool.and_eq_true, List.all_eq_true, Bool.and_eq_true, List.all_eq_true]
   refine ⟨fun x hx => ?_, fun x hx => ?_, ?_⟩
   · have := hs x hx
     unfold ptW inW
     simp only [Bool.and_eq_true, decide_eq_true_eq]
     omega
   · have := mm x hx
     simp only [Bool.and_eq_true, decide_eq_true_eq]
     omega
   · simp only [Bool.and_eq_true, decide_eq_true_eq]
     omega
theorem p12_pr (l : List Int) : (prOf (Ct.p12 l)).Ok ∧ (prOf (Ct.p12 l)).Le 5 ∧ rngB (Ct.p12 l).id (Ct.p12 l).home (Ct.p12 l).rim (Ct.p12 l).marks = true ∧ (Ct.p12 l).worn.length = (Ct.p12 l).rim.length ∧ (Ct.p12 l).marks.length = (Ct.p12 l).rim.length := by
 have hb := p12_bits l
 have hl := p12_len l
 have hs := p12_sm l
 rw [Ct.p12_rim] at hl hs
 unfold Ct.p12 at *
 obtain ⟨b1, b2, b3, b4, b5⟩ := hb
 exact p12P_pr l _ hs hl b1 b2 b3 b4 b5
def okN (r : Rat) : Bool := !negB r
theorem p12_fine (l : List Int) : okA (Ct.p12 l) true = true := by
 have a10 := atz_in l 10 2
 have a11 := atz_in l 11 5
 have a12 := atz_in l 12 3
 have a13 := atz_in l 13 99
 have a14 := atz_in l 14 4
 have t1 : (List.range 3).all (fun a => okN (Rat.divInt (a : Int) 4) && decide (cmpQ (Rat.divInt (a : Int) 4) (Rat.divInt 4 1) ≤ 0)) = true := by decide +kernel
 have t2 : ((List.range 6).all fun a => (List.range 4).all fun b => (okN (Rat.divInt (1 + (a : Int)) 2) && okN (Rat.divInt (1 + (a : Int)) 2 + Rat.divInt (b : Int) 2)) && (decide (sgnZ (Rat.divInt (1 + (a : Int)) 2).num > 0) && (decide (cmpQ (Rat.divInt (1 + (a : Int)) 2) (Rat.divInt (1 + (a : Int)) 2 + Rat.divInt (b : Int) 2) ≤ 0) && decide (cmpQ (Rat.divInt (1 + (a : Int)) 2 + Rat.divInt (b : Int) 2) (Rat.divInt 1000 1) ≤ 0)))) = true := by decide +kernel
 have t3 : (List.range 100).all (fun a => okN (Rat.divInt (20 + (a : Int)) 1) && !(sgnZ (Rat.divInt (20 + (a : Int)) 1).num == 0)) = true := by decide +kernel
 have t4 : (List.range 5).all (fun a => okN (Rat.divInt (a : Int) 4) && decide (cmpQ (Rat.divInt (a : Int) 4) (Rat.divInt 4 1) ≤ 0)) = true := by decide +kernel
 rw [List.all_eq_true] at t1 t2 t3 t4
 have k1 := t1 (atz l 10 2).toNat (List.mem_range.2 (by omega))
 have k2 := t2 (atz l 11 5).toNat (List.mem_range.2 (by omega))
 rw [List.all_eq_true] at k2
 have k2 := k2 (atz l 12 3).toNat (List.mem_range.2 (by omega))
 have k3 := t3 (atz l 13 99).toNat (List.mem_range.2 (by omega))
 have k4 := t4 (atz l 14 4).toNat (List.mem_range.2 (by omega))
 rw [Int.toNat_of_nonneg (by omega)] at k1 k3 k4
 rw [Int.toNat_of_nonneg (by omega), Int.toNat_of_nonneg (by omega)] at k2
 unfold okA fineB smB hvB
 unfold Ct.p12
 generalize Ct.rimP l = P
 unfold Ct.p12P Ct.pHeavy Ct.pLight
 unfold okN at k1 k2 k3 k4
 simp only [Bool.and_eq_true] at *
 simp only [k1, k2, k3, k4, true_and, and_true, and_self]
end
end Go.Proofs.YtlgnagnmoleeiaaGreat.E.Pc
namespace Go.Proofs.YtlgnagnmoleeiaaGreat.E.Pc
open Go.RowKit
set_option linter.unusedVariables false
set_option linter.unusedSimpArgs false
section
variable {p : Ct.Pi} {l : List Int} {t : List UInt8} {r : Rat} {n k i : Nat}
theorem digL {N : Nat} (h : I.Can (digs N) → I.Bd k (I.val (digs N))) (hk : 2 ^ k ≤ 1000000000 ^ n) : (digs N).length ≤ n := by
 refine Nat.le_of_not_lt fun hc => ?_
 have h1 := h (digs_ok N).1
 have hne : digs N ≠ [] := fun e => by rw [e] at hc; simp at hc
 have h2 := (digs_ok N).1.pos hne
 have h3 : I.pw n ≤ I.pw ((digs N).length - 1) := I.pw_mono (by omega)
 have h4 : I.pw n = ((1000000000 ^ n : Nat) : Int) := by
  unfold I.pw
  rw [Int.natCast_pow]
  rfl
 unfold I.Bd at h1
 generalize I.pw ((digs N).length - 1) = a at *
 generalize I.pw n = b at *
 generalize I.val (digs N) = v at *
 generalize 2 ^ k = s at *
 generalize 1000000000 ^ n = u at *
 omega
theorem digR (h : Bn k (ofR r)) (hk : 2 ^ k ≤ 1000000000 ^ n) : (digs r.num.natAbs).length ≤ n ∧ (digs (dq r).natAbs).length ≤ n := ⟨digL h.1 hk, digL h.2 hk⟩
theorem p35 : 2 ^ 1000 ≤ 1000000000 ^ 35 := by decide +kernel
theorem p1 : 2 ^ 20 ≤ 1000000000 ^ 1 := by decide +kernel
theorem lenI2 (l : List Int) : (W.encI l).length ≤ 9 + 9 * l.length := W.encI_le l
theorem encQ_up (h : (digs r.num.natAbs).length ≤ n ∧ (digs (dq r).natAbs).length ≤ n) : (encQ r).length ≤ 36 + 18 * n ∧ 2 ≤ (encQ r).length := by
 have h1 := encZ_len r.num
 have h2 := encZ_len (dq r)
 unfold encQ
 rw [List.length_append]
 omega
/-- How long a code is. -/
theorem encP_up (hq : ∀ r ∈ numP p, (digs r.num.natAbs).length ≤ n ∧ (digs (dq r).natAbs).length ≤ n) (h1 : p.rim.length ≤ k) (h2 : p.worn.length ≤ k) (h3 : p.marks.length ≤ k) : (encP p).length ≤ 234 + 36 * k + 90 * n ∧ 10 ≤ (encP p).length := by
 have e : (encP p).length = (W.encI [p.id, p.home]).length + ((W.encI (crn p.rim)).length + ((W.encI (wnI p.worn)).length + ((W.encI p.marks).length + ((encQ p.tol).length + ((encQ p.light).length + ((encQ p.heavy).length + ((encQ p.str).length + (encQ p.rough).length))))))) := by simp [encP, hdP, numP]
 have l1 := lenI2 [p.id, p.home]
 have l2 := lenI2 (crn p.rim)
 have l3 := lenI2 (wnI p.worn)
 have l4 := lenI2 p.marks
 have l5 := encQ_up (hq p.tol (by simp [numP]))
 have l6 := encQ_up (hq p.light (by simp [numP]))
 have l7 := encQ_up (hq p.heavy (by simp [numP]))
 have l8 := encQ_up (hq p.str (by simp [numP]))
 have l9 := encQ_up (hq p.rough (by simp [numP]))
 rw [crn_len] at l2
 rw [wnI_len] at l3
 simp only [List.length_cons, List.length_nil] at l1
 omega
theorem vt_en (h : En p) : VT (tupP p) := by
 have hcl := crn_len p.rim
 have hwl := wnI_len p.worn
 have nr := h.nr
 have nw := h.nw
 have nm := h.nm
 have q : ∀ r ∈ numP p, VQ r := fun r hr => (h.q r hr).vq
 refine ⟨⟨fun x hx => ?_, show (-9223372036854775808 : Int) ≤ 2 by omega, show (2 : Int) ≤ 9223372036854775807 by omega⟩, ⟨crn_64 h.r, ?_⟩, ⟨wnI_64, ?_⟩, ⟨h.m, ?_⟩, q p.tol (by simp [numP]), q p.light (by simp [numP]), q p.heavy (by simp [numP]), q p.str (by simp [numP]), q p.rough (by simp [numP])⟩
 · simp only [tupP, List.mem_cons, List.not_mem_nil, or_false] at hx
   rcases hx with rfl | rfl
   · exact h.id
   · exact h.home
 · simp only [tupP]
   exact ⟨by omega, by omega⟩
 · simp only [tupP]
   exact ⟨by omega, by omega⟩
 · simp only [tupP]
   exact ⟨by omega, by omega⟩
theorem en_pr (ok : (prOf p).Ok) (le : (prOf p).Le 6) : En p ∧ (encP p).length ≤ 3600 := by
 have h1 : p.rim.length ≤ 6 := le.r
 have h2 : p.worn.length ≤ 6 := le.w
 have h3 : p.marks.length ≤ 6 := le.m
 have hq : ∀ r ∈ numP p, (digs r.num.natAbs).length ≤ 35 ∧ (digs (dq r).natAbs).length ≤ 35 := fun r hr => by
  simp only [numP, List.mem_cons, List.not_mem_nil, or_false] at hr
  rcases hr with rfl | rfl | rfl | rfl | rfl
  · exact digR ok.a p35
  · exact digR ok.b p35
  · exact digR ok.c p35
  · exact digR ok.d p35
  · exact digR ok.e p35
 have hl := (encP_up hq h1 h2 h3).1
 exact ⟨⟨ok.id, ok.home, ok.r, ok.m, by omega, by omega, by omega, fun r hr => by
  have := hq r hr
  exact ⟨by omega, by omega⟩⟩, by omega⟩
/-- The generated pieces. -/
theorem en_p12 (l : List Int) : En (Ct.p12 l) ∧ (encP (Ct.p12 l)).length ≤ 504 ∧ 10 ≤ (encP (Ct.p12 l)).length := by
 obtain ⟨ok, le, hr, w1, m1⟩ := p12_pr l
 obtain ⟨b1, b2, b3, b4, b5⟩ := p12_bits l
 generalize Ct.p12 l = p at *
 have h1 : p.rim.length ≤ 5 := le.r
 have h2 : p.worn.length ≤ 5 := le.w
 have h3 : p.marks.length ≤ 5 := le.m
 have hq : ∀ r ∈ numP p, (digs r.num.natAbs).length ≤ 1 ∧ (digs (dq r).natAbs).length ≤ 1 := fun r hr => by
  simp only [numP, List.mem_cons, List.not_mem_nil, or_false] at hr
  rcases hr with rfl | rfl | rfl | rfl | rfl
  · exact digR (bn_gen (b1.mono (k := 20) (by omega))) p1
  · exact digR (bn_gen (b2.mono (k := 20) (by omega))) p1
  · exact digR (bn_gen (b3.mono (k := 20) (by omega))) p1
  · exact digR (bn_gen (b4.mono (k := 20) (by omega))) p1
  · exact digR (bn_gen (b5.mono (k := 20) (by omega))) p1
 have hl := encP_up hq h1 h2 h3
 exact ⟨⟨ok.id, ok.home, ok.r, ok.m, by omega, by omega, by omega, fun r hr => by
  have := hq r hr
  exact ⟨by omega, by omega⟩⟩, by omega, hl.2⟩
theorem vz_p12 (l : List Int) : vz (Ct.p12 l) = 0 := by
 obtain ⟨ok, le, hr, w1, m1⟩ := p12_pr l
 have hv := p12_val l
 have hf := p12_fine l
 have hl := p12_len l
 generalize Ct.p12 l = p at *
 have hv : Pg.valid (p.rim.map Ct.qv) = true := hv
 unfold vz vP
 rw [if_pos hr, if_pos ⟨by omega, w1, m1⟩, hv, if_pos hf]
/-- What is read of a code, with anything behind it. -/
theorem dc_enc (hv : VT (tupP p)) (hz : vz p = 0) : dcV (encP p ++ t) = (p, (encP p).length, 0) := by
 have h := codecPc.back p ⟨hv, hz⟩ t
 rw [encT_p] at h
 unfold dcV
 rw [h]
 rfl
theorem dc_short (hv : VT (tupP p)) (hz : vz p = 0) (hi : i < (encP p).length) : dcV ((encP p).take i) = (zP, 0, 2) := by
 have h := codecPc.short p ⟨hv, hz⟩ i (by rw [encT_p]; exact hi)
 rw [encT_p] at h
 unfold dcV
 rw [if_neg (by rw [h]; decide)]
theorem dc_bad (hv : VT (tupP p)) (hz : vz p ≠ 0) : dcV (encP p) = (zP, 0, 2) := by
 have h := codecT.back (tupP p) hv []
 rw [encT_p, List.append_nil] at h
 unfold dcV
 rw [if_neg]
 intro he
 obtain ⟨q, k1, k2, k3, k4, k5, k6, k7, k8, k9, hr, hz2, _⟩ := pc_good he
 have h2 := rds_mk hr
 rw [h] at h2
 simp only [Prod.mk.injEq] at h2
 rw [← tupP_inj h2.1] at hz2
 exact hz hz2
/-- What is read at all. -/
theorem dc_ok (B : List UInt8) (hB : B.length ≤ 1000) : (dcV B).1.rim.length ≤ 4000 ∧ (dcV B).1.worn.length ≤ 4000 ∧ (dcV B).1.marks.length ≤ 4000 ∧ ((dcV B).2.2 = 0 → (dcV B).2.1 ≤ B.length ∧ En (dcV B).1 ∧ encP (dcV B).1 = B.take (dcV B).2.1) ∧ ((dcV B).2.2 = 0 ∨ (dcV B).2.2 = 2) := by
 unfold dcV
 by_cases hG : (decPc B).2.2 = 0
 · rw [if_pos hG]
   obtain ⟨⟨c1, hz⟩, c2, c3⟩ := codecPc.canon B hG
   rw [encT_p] at c3
   generalize (decPc B).1 = p at *
   have hl := congrArg List.length c3
   rw [List.length_take] at hl
   obtain ⟨⟨a1, a2, a3⟩, _⟩ := len_enc c1
   have hb : p.rim.length ≤ 12 ∧ p.worn.length = p.rim.length ∧ p.marks.length = p.rim.length := by
    unfold vz vP at hz
    split at hz
    · split at hz
      · rename_i h; exact h
      · cases hz
    · cases hz
   exact ⟨by omega, by omega, by omega, fun _ => ⟨c2, en_enc c1 (by omega) (by omega) (by omega) (by omega), c3.symm⟩, .inl hG⟩
 · rw [if_neg hG]
   exact ⟨Nat.zero_le _, Nat.zero_le _, Nat.zero_le _, fun h => (by cases h), .inr rfl⟩
end
end Go.Proofs.YtlgnagnmoleeiaaGreat.E.Pc
namespace Go.Proofs.YtlgnagnmoleeiaaGreat.E
open Go.RowKit
theorem gln_nil : gl = [] := by kernel_rfl
theorem glo_none (w : World) : Glo w (fun _ => False) := fun p hp => by rw [gln_nil] at hp; cases hp
end Go.Proofs.YtlgnagnmoleeiaaGreat.E
namespace Go.Proofs.YtlgnagnmoleeiaaGreat.E
open Go.RowKit
set_option linter.unusedVariables false
theorem Fit.bytes {x : V} (h : Fit (.row [.ii .u8]) x) : ∃ l : List UInt8, x = .sl (byL l) := by
 cases h with
 | row e l h0 h1 h2 =>
  clear h0
  suffices h : ∃ l' : List UInt8, l = byL l' by
   obtain ⟨l', rfl⟩ := h
   exact ⟨l', rfl⟩
  induction l with
  | nil => exact ⟨[], rfl⟩
  | cons a r ih =>
   obtain ⟨l', rfl⟩ := ih (fun cs h => h1 cs (List.mem_cons_of_mem _ h)) (fun cs h => h2 cs (List.mem_cons_of_mem _ h))
   have hl := h1 a (List.mem_cons_self ..)
   have hf := h2 a (List.mem_cons_self ..)
   match a, hl with
   | [y], _ =>
    have hy := hf 0 _ y rfl rfl
    cases hy with
    | i _ n hn =>
     have hb : 0 ≤ n ∧ n ≤ 255 := by
      have h3 : IntKind.u8.min ≤ n ∧ n ≤ IntKind.u8.max := by simpa [Lit.wf] using hn
      exact h3
     refine ⟨UInt8.ofNat n.toNat :: l', ?_⟩
     have : ((UInt8.ofNat n.toNat).toNat : Int) = n := by
      rw [UInt8.toNat_ofNat_of_lt' (by show n.toNat < 256; omega)]
      omega
     show [V.k (.int .u8 n)] :: byL l' = [V.k (.int .u8 ((UInt8.ofNat n.toNat).toNat : Int))] :: byL l'
     rw [this]
end Go.Proofs.YtlgnagnmoleeiaaGreat.E
