/-
 SHA, plain: words of 32 bits, as the model's integers.
-/
import Derived.Test.YtjegnmlchioofaaGreatDoorEpN
import Derived.Test.YtjegnmlchioofaaGreatDoorOpenI
import Derived.OpenShut
import Derived.Carry
import Derived.Test.YtjegnmlchioofaaGreatDoorEtE
import Derived.Laws.BitsAllLaws
namespace Go.Proofs.YtjegnmlchioofaaGreatDoor.E
open Go.RowKit
set_option linter.unusedVariables false
theorem cb_of {w : World} {b o : Nat} {v : Value} (h : w.cell? ⟨b, o, none⟩ = some v) : CB w b := by
 unfold World.cell? at h
 split at h
 · rename_i cs T fr hb
   exact ⟨cs, T, fr, hb⟩
 · cases h
def Rt (X : World → Value → Prop) (w : World) (e : Ending) (w' : World) : Prop := ∃ v, e = .returned v ∧ X w' v ∧ Below w.heap.size w w'
theorem back {P : Program} {f : FuncId} {ds : List V} {d : V} (h : Pure P f ds d) {w : World} {args : Array Value} (ha : Reps w (fun _ => False) no args ds) : Calls P f args w (Rt (fun w v => Rep w (fun _ => False) no v d) w) :=
 (h.2 w (fun _ => False) args (fun _ h => h.elim) ha).mono fun e w' h => h
theorem to_tt {w w' : World} {e : Ending} (h : Rt (fun w v => Rep w (fun _ => False) no v (bo true)) w e w') : e = .returned (.bool true) ∧ Below w.heap.size w w' := by
 obtain ⟨v, rfl, h1, h2⟩ := h
 exact ⟨by rw [Rep.k_inv h1], h2⟩
/-- A law of any arguments. -/
theorem lawG {f : FuncId} {us : List Value} {ds : List V} {w : World} (h : Pure PP f ds (bo true)) (hg : Glo w (fun _ => False)) (hl : us.length = ds.length) (hr : ∀ j, j < ds.length → Rep w (fun _ => False) no (us.getD j undef) (ds.getD j .un)) :
    Calls PP f us.toArray w fun e w' => e = .returned (.bool true) ∧ Below w.heap.size w w' :=
 (back h (reps_of hl hg hr)).mono fun _ _ => to_tt
theorem all4 {p : Nat → Prop} (h0 : p 0) (h1 : p 1) (h2 : p 2) (h3 : p 3) : ∀ j, j < 4 → p j := fun j hj => by
 match j, hj with
 | 0, _ => exact h0
 | 1, _ => exact h1
 | 2, _ => exact h2
 | 3, _ => exact h3
end Go.Proofs.YtjegnmlchioofaaGreatDoor.E
namespace Go.Proofs.YtjegnmlchioofaaGreatDoor.E
open Go.RowKit
set_option linter.unusedVariables false
/-- The cells of a type. -/
inductive Sh where
 | bb
 | ii (k : IntKind)
 | ss
 | row (e : List Sh)
def shapeF (g : TypeId → Option (List Sh)) (c : TypeId → Nat) : Nat → List Field → Option (List Sh)
 | _, [] => some []
 | o, f :: r => match g f.type, shapeF g c (o + c f.type) r with
   | some l, some m => match Nat.beq f.offset o && Nat.beq l.length (c f.type) with
     | true => some (l ++ m)
     | false => none
   | _, _ => none
def shape (P : Program) : Nat → TypeId → Option (List Sh)
 | 0, _ => none
 | n + 1, t => match P.underlying t with
   | some .bool => some [.bb]
   | some (.int k) => some [.ii k]
   | some .string => some [.ss]
   | some (.slice e) => match shape P n e with
     | some l => match Nat.beq l.length (P.cellsOf e) && Nat.blt 0 l.length with
       | true => some [.row l]
       | false => none
     | none => none
   | some (.struct fs) => match shapeF (shape P n) P.cellsOf 0 fs.toList with
     | some l => match Nat.beq l.length (P.cellsOf t) with
       | true => some l
       | false => none
     | none => none
   | _ => none
/-- What stands in such a cell. -/
inductive Fit : Sh → V → Prop
 | b (x : Bool) : Fit .bb (.k (.bool x))
 | i (k : IntKind) (n : Int) (h : (Lit.int k n).wf = true) : Fit (.ii k) (.k (.int k n))
 | s (x : ByteArray) (h : x.size ≤ maxLen) : Fit .ss (.k (.string x))
 | row (e : List Sh) (l : List (List V)) (h0 : l.length ≤ maxLen) (h1 : ∀ cs ∈ l, cs.length = e.length) (h2 : ∀ cs ∈ l, ∀ (j : Nat) (sh : Sh) (x : V), e[j]? = some sh → cs[j]? = some x → Fit sh x) : Fit (.row e) (.sl l)
def FitL (e : List Sh) (xs : List V) : Prop := xs.length = e.length ∧ ∀ (j : Nat) (sh : Sh) (x : V), e[j]? = some sh → xs[j]? = some x → Fit sh x
abbrev FA : Nat → Prop := fun _ => False
def RepL (w : World) (cs : List Value) (xs : List V) : Prop := ∀ (j : Nat) (v : Value) (d : V), cs[j]? = some v → xs[j]? = some d → Rep w FA no v d
theorem FitL.nil : FitL [] [] := ⟨rfl, fun j sh x h => by simp at h⟩
theorem FitL.one {q : Sh} {x : V} (h : Fit q x) : FitL [q] [x] := ⟨rfl, fun j sh y h1 h2 => by
 match j with
 | 0 => simp at h1 h2; subst h1; subst h2; exact h
 | j + 1 => simp at h1⟩
theorem FitL.app {e f : List Sh} {xs ys : List V} (h : FitL e xs) (g : FitL f ys) : FitL (e ++ f) (xs ++ ys) := by
 refine ⟨by rw [List.length_append, List.length_append, h.1, g.1], fun j sh x h1 h2 => ?_⟩
 by_cases hj : j < e.length
 · rw [List.getElem?_append_left hj] at h1
   rw [List.getElem?_append_left (by rw [h.1]; exact hj)] at h2
   exact h.2 j sh x h1 h2
 · rw [List.getElem?_append_right (by omega)] at h1
   rw [List.getElem?_append_right (by rw [h.1]; omega), h.1] at h2
   exact g.2 _ sh x h1 h2
section
variable {H : Type} {enc : TypeId × Value → H} {P : Program} {w : World}
theorem fields_rep {g : TypeId → Option (List Sh)} {c : TypeId → Nat} {α : Type} {tr : TypeId → List Value → Option α} {cs : List Value} (hg : ∀ t cs' x l, tr t cs' = some x → g t = some l → cs'.length = l.length ∧ ∃ xs, FitL l xs ∧ RepL w cs' xs) :
  ∀ (r : List Field) (o : Nat) (l : List Sh), shapeF g c o r = some l → (∀ f ∈ r, ∃ x, tr f.type ((cs.drop f.offset).take (c f.type)) = some x) → ∃ xs, FitL l xs ∧ RepL w (cs.drop o) xs
 | [], o, l, h, _ => by
  simp only [shapeF, Option.some.injEq] at h
  subst h
  exact ⟨[], FitL.nil, fun j v d _ h => by simp at h⟩
 | f :: r, o, l, h, ht => by
  simp only [shapeF] at h
  split at h
  · rename_i l1 l2 e1 e2
    split at h
    · rename_i hc
      simp only [Bool.and_eq_true, Nat.beq_eq] at hc
      injection h with h
      subst h
      obtain ⟨x, hx⟩ := ht f (List.mem_cons_self ..)
      obtain ⟨h1, xs, h2, h3⟩ := hg _ _ _ _ hx e1
      obtain ⟨ys, h4, h5⟩ := fields_rep hg r _ _ e2 fun f hf => ht f (List.mem_cons_of_mem _ hf)
      refine ⟨xs ++ ys, h2.app h4, fun j v d hv hd => ?_⟩
      rw [hc.1] at h3
      by_cases hj : j < l1.length
      · rw [List.getElem?_append_left (by rw [h2.1]; exact hj)] at hd
        refine h3 j v d ?_ hd
        rw [List.getElem?_take, if_pos (by omega)]
        exact hv
      · rw [List.getElem?_append_right (by rw [h2.1]; omega), h2.1] at hd
        refine h5 (j - l1.length) v d ?_ hd
        rw [List.getElem?_drop] at hv ⊢
        rw [show o + c f.type + (j - l1.length) = o + j by omega]
        exact hv
    · cases h
  · cases h
theorem trod_rep : ∀ (fuel n : Nat) (t : TypeId) (cs : List Value) (x : DataW H × List MemPlace) (l : List Sh), DataW.trod enc P w 0 (fun _ => true) true fuel t cs = some x → shape P n t = some l → cs.length = l.length ∧ ∃ xs, FitL l xs ∧ RepL w cs xs := by
 intro fuel
 induction fuel with
 | zero => intro n t cs x l h; simp [DataW.trod] at h
 | succ fuel ih =>
  intro n t cs x l h hs
  cases n with
  | zero => cases hs
  | succ n =>
   have one : ∀ {q : Sh} {v : Value} {d : V}, Fit q d → Rep w FA no v d → [v].length = [q].length ∧ ∃ xs, FitL [q] xs ∧ RepL w [v] xs := fun {q v d} h1 h2 => ⟨rfl, [d], FitL.one h1, fun j v' d' e1 e2 => by
    match j with
    | 0 => simp at e1 e2; subst e1; subst e2; exact h2
    | j + 1 => simp at e1⟩
   unfold shape at hs
   split at hs
   · rename_i hu
     injection hs with hs; subst hs
     unfold DataW.trod at h
     rw [hu] at h
     split at h <;> simp_all
     exact one (.b _) (.k _ _)
   · rename_i k hu
     injection hs with hs; subst hs
     unfold DataW.trod at h
     rw [hu] at h
     split at h <;> simp_all
     obtain ⟨⟨rfl, h1⟩, _⟩ := h
     exact one (.i _ _ h1) (.k _ _)
   · rename_i hu
     injection hs with hs; subst hs
     unfold DataW.trod at h
     rw [hu] at h
     split at h <;> simp_all
     exact one (.s _ h.1) (.k _ _)
   · rename_i e hu
     split at hs
     · rename_i l' hl'
       split at hs
       · rename_i hc
         simp only [Bool.and_eq_true, Nat.beq_eq, Nat.blt_eq] at hc
         injection hs with hs; subst hs
         rcases DataW.trod_slice hu h with ⟨rfl, _⟩ | ⟨a, len, cap, elems, rest, n', hn', rfl, rfl, hb, hl, hm, hlen, hel, hsp, hns⟩
         · exact one (.row l' [] (by simp) (by simp) (by simp)) (.sl _ none 0 0 0 l'.length [] (fun _ _ => undef) (Nat.zero_le _) (Nat.zero_le _) (by simp) (by simp) (by simp) (by simp))
         · obtain rfl : fuel = n' := by omega
           have he : ∀ i, i < len → ∃ xs, FitL l' xs ∧ ∀ j d, xs[j]? = some d → ∃ v, w.cell? (a.add (i * P.cellsOf e) |>.add j) = some v ∧ Rep w FA no v d := by
            intro i hi
            have hq := hel i hi
            rw [List.getElem?_eq_getElem (by omega)] at hq
            obtain ⟨cs', h1, h2⟩ := Option.bind_eq_some_iff.1 hq
            obtain ⟨h3, xs, h4, h5⟩ := ih n e cs' _ l' h2 hl'
            obtain ⟨_, h6, h7⟩ := World.cells?_some h1
            refine ⟨xs, h4, fun j d hd => ?_⟩
            have hjl := (List.getElem?_eq_some_iff.1 hd).1
            rw [h4.1] at hjl
            have hv : cs'[j]? = some cs'[j] := List.getElem?_eq_getElem (by omega)
            exact ⟨_, (h7 j (by omega)).trans hv, h5 j _ d hv hd⟩
           by_cases h0 : len = 0
           · subst h0
             exact one (.row l' [] (by simp) (by simp) (by simp)) (.sl _ (some a) 0 0 cap l'.length [] (fun _ _ => undef) (Nat.zero_le _) hm (by simp) (by simp) (by simp) (by simp))
           · have hch : ∃ F : Nat → List V, ∀ i, i < len → FitL l' (F i) ∧ ∀ j d, (F i)[j]? = some d → ∃ v, w.cell? (a.add (i * P.cellsOf e) |>.add j) = some v ∧ Rep w FA no v d :=
              ⟨fun i => if h : i < len then (he i h).choose else [], fun i hi => by simp only [dif_pos hi]; exact (he i hi).choose_spec⟩
             obtain ⟨F, hF⟩ := hch
             obtain ⟨b, o, spot⟩ := a
             have hspot : spot = none := by
              obtain ⟨h1, h2⟩ := hF 0 (by omega)
              have hlt : 0 < (F 0).length := by rw [h1.1]; exact hc.2
              obtain ⟨v, h3, _⟩ := h2 0 _ (List.getElem?_eq_getElem hlt)
              simpa [Addr.add] using World.cell?_spot h3
             subst hspot
             have hadd : ∀ i j : Nat, ((⟨b, o, none⟩ : Addr).add (i * P.cellsOf e)).add j = ⟨b, o + i * l'.length + j, none⟩ := fun i j => by rw [hc.1, Go.WideShapes.add_plain, Go.WideShapes.add_plain]
             let L : List (List V) := (List.range len).map F
             have hL : L.length = len := by simp [L]
             have hLi : ∀ i cs, L[i]? = some cs → i < len ∧ cs = F i := fun i cs hi => by
              have hlt := (List.getElem?_eq_some_iff.1 hi).1
              rw [hL] at hlt
              simp only [L, List.getElem?_map, List.getElem?_range hlt, Option.map_some, Option.some.injEq] at hi
              exact ⟨hlt, hi.symm⟩
             have hmem : ∀ cs ∈ L, ∃ i, i < len ∧ cs = F i := fun cs hcs => by
              obtain ⟨i, hi⟩ := List.getElem?_of_mem hcs
              exact ⟨i, hLi i cs hi⟩
             have hr : Rep w FA no (.slice (some ⟨b, o, none⟩) L.length cap) (.sl L) := by
              refine .sl _ _ b o cap l'.length L (fun i j => (w.cell? ⟨b, o + i * l'.length + j, none⟩).getD undef) (by omega) hm (fun _ => ⟨rfl, fun e => e, ?_⟩) (fun cs hcs => ?_) (fun i j cs x hi hj => ?_) (fun i j cs x hi hj => ?_)
              · obtain ⟨h1, h2⟩ := hF 0 (by omega)
                have hlt : 0 < (F 0).length := by rw [h1.1]; exact hc.2
                obtain ⟨v, h3, _⟩ := h2 0 _ (List.getElem?_eq_getElem hlt)
                rw [hadd] at h3
                exact cb_of h3
              · obtain ⟨i, hi, rfl⟩ := hmem cs hcs
                exact (hF i hi).1.1
              · obtain ⟨hi', rfl⟩ := hLi i cs hi
                obtain ⟨v, h3, _⟩ := (hF i hi').2 j x hj
                rw [hadd] at h3
                rw [h3]; rfl
              · obtain ⟨hi', rfl⟩ := hLi i cs hi
                obtain ⟨v, h3, h4⟩ := (hF i hi').2 j x hj
                rw [hadd] at h3
                rw [h3]
                exact h4
             rw [hL] at hr
             refine one (.row l' L (by omega) (fun cs hcs => ?_) (fun cs hcs j sh x h1 h2 => ?_)) hr
             · obtain ⟨i, hi, rfl⟩ := hmem cs hcs
               exact (hF i hi).1.1
             · obtain ⟨i, hi, rfl⟩ := hmem cs hcs
               exact (hF i hi).1.2 j sh x h1 h2
       · cases hs
     · cases hs
   · rename_i fs hu
     split at hs
     · rename_i l' hl'
       split at hs
       · rename_i hc
         have hc := Nat.eq_of_beq_eq_true hc
         injection hs with hs; subst hs
         obtain ⟨xs, n', hn', _, h1, h2, h3⟩ := DataW.trod_struct hu h
         obtain rfl : fuel = n' := by omega
         obtain ⟨ys, h4, h5⟩ := fields_rep (w := w) (c := P.cellsOf) (tr := fun t cs => DataW.trod enc P w 0 (fun _ => true) true fuel t cs) (cs := cs) (fun t cs' x l a b => ih n t cs' x l a b) fs.toList 0 l' hl' (fun f hf => by
          obtain ⟨i, hi⟩ := List.getElem?_of_mem hf
          have hi2 : fs[i]? = some f := by simpa using hi
          have hlt := (Array.getElem?_eq_some_iff.1 hi2).1
          have h6 := h3 i f hi2
          rw [List.getElem?_eq_getElem (by omega)] at h6
          exact ⟨_, h6⟩)
         exact ⟨by omega, ys, h4, by simpa using h5⟩
       · cases hs
     · cases hs
   · cases hs
/-- An argument of one cell. -/
theorem arg_1 {n : Nat} {t : TypeId} {v : Value} {d : DataW H} {ps : List MemPlace} {q : Sh} (h : DataW.Trod enc P w 0 (fun _ => true) true t v d ps) (hv : v.cells = #[v]) (hs : shape P n t = some [q]) : ∃ x, Fit q x ∧ Rep w FA no v x := by
 obtain ⟨fuel, hf⟩ := h
 rw [hv] at hf
 obtain ⟨_, xs, h1, h2⟩ := trod_rep fuel n t _ _ _ hf hs
 match xs, h1 with
 | [x], h1 => exact ⟨x, h1.2 0 q x rfl rfl, h2 0 v x rfl rfl⟩
end
/-- A row of ints. -/
theorem Fit.ints {x : V} (h : Fit (.row [.ii .i64]) x) : ∃ l : List Int, x = zl l ∧ ∀ n ∈ l, W.Is64 n := by
 cases h with
 | row e l h0 h1 h2 =>
  clear h0
  suffices h : ∃ l' : List Int, l = zs l' ∧ ∀ n ∈ l', W.Is64 n by
   obtain ⟨l', rfl, h⟩ := h
   exact ⟨l', rfl, h⟩
  induction l with
  | nil => exact ⟨[], rfl, by simp⟩
  | cons a r ih =>
   obtain ⟨l', rfl, h3⟩ := ih (fun cs h => h1 cs (List.mem_cons_of_mem _ h)) (fun cs h => h2 cs (List.mem_cons_of_mem _ h))
   have hl := h1 a (List.mem_cons_self ..)
   have hf := h2 a (List.mem_cons_self ..)
   match a, hl with
   | [y], _ =>
    have hy := hf 0 _ y rfl rfl
    cases hy with
    | i k n hw => exact ⟨n :: l', rfl, fun m hm => by
      rcases List.mem_cons.1 hm with rfl | hm
      · exact is64_of hw
      · exact h3 m hm⟩
end Go.Proofs.YtjegnmlchioofaaGreatDoor.E
namespace Go.Proofs.YtjegnmlchioofaaGreatDoor.E
open Go.RowKit
set_option linter.unusedVariables false
theorem Fit.bytes {x : V} (h : Fit (.row [.ii .u8]) x) : ∃ l : List UInt8, x = .sl (byL l) := by
 cases h with
 | row e l h0 h1 h2 =>
  clear h0
  suffices h : ∃ l' : List UInt8, l = byL l' by
   obtain ⟨l', rfl⟩ := h
   exact ⟨l', rfl⟩
  induction l with
  | nil => exact ⟨[], rfl⟩
  | cons a r ih =>
   obtain ⟨l', rfl⟩ := ih (fun cs h => h1 cs (List.mem_cons_of_mem _ h)) (fun cs h => h2 cs (List.mem_cons_of_mem _ h))
   have hl := h1 a (List.mem_cons_self ..)
   have hf := h2 a (List.mem_cons_self ..)
   match a, hl with
   | [y], _ =>
    have hy := hf 0 _ y rfl rfl
    cases hy with
    | i _ n hn =>
     have hb : 0 ≤ n ∧ n ≤ 255 := by
      have h3 : IntKind.u8.min ≤ n ∧ n ≤ IntKind.u8.max := by simpa [Lit.wf] using hn
      exact h3
     refine ⟨UInt8.ofNat n.toNat :: l', ?_⟩
     have : ((UInt8.ofNat n.toNat).toNat : Int) = n := by
      rw [UInt8.toNat_ofNat_of_lt' (by show n.toNat < 256; omega)]
      omega
     show [V.k (.int .u8 n)] :: byL l' = [V.k (.int .u8 ((UInt8.ofNat n.toNat).toNat : Int))] :: byL l'
     rw [this]
end Go.Proofs.YtjegnmlchioofaaGreatDoor.E
namespace Go.Proofs.YtjegnmlchioofaaGreatDoor.E.Ca
open Go.RowKit
set_option linter.unusedVariables false
set_option linter.unusedSimpArgs false
section
variable {more B : List UInt8} {how n : Int} {T O : List CM} {i j a : Nat} {l : List Int} {q r : CQ}
theorem tm_at {L : List CM} {c : CM} (hi : i < L.length) (h : L.getD i c0 = c) : (L.map dC)[i]? = some (dC c) := by rw [← h]; exact elC hi
end
end Go.Proofs.YtjegnmlchioofaaGreatDoor.E.Ca
namespace Go.Proofs.YtjegnmlchioofaaGreatDoor.E.Ca
open Go.RowKit
set_option linter.unusedVariables false
set_option linter.unusedSimpArgs false
noncomputable abbrev fD6 : Func := fnOf PP 15
section
variable {l L M : List UInt8} {A E F : List Int} {R : List (Int × Int)} {a0 a1 a2 a3 a4 f0 f1 f2 f3 f4 : Int} {q0 q1 q2 q3 q4 q5 : Rat} {a b c p i j N : Nat} {e : Int} {acc : List Rat}
noncomputable def rS (l : List UInt8) (A : List Int) (R : List (Int × Int)) (F : List Int) (N : Nat) (x : Nat × List Rat × Nat) : St := at_ fD6 [(0, .sl (byL l)), (2, .lp 0 0), (5, zl A), (6, ni ((N + x.2.2 : Nat) : Int)), (8, zl (flatR R)), (10, zl F), (11, .ow 1), (12, ni (x.1 : Int))] [.bx 43 zC27, .rw 35 4 (x.2.1.map dR)]
noncomputable def rT (R : List (Int × Int)) (a0 a1 a2 a3 a4 : Int) (F : List Int) (Q : List Rat) (N j : Nat) : St := at_ fD6 [(2, .lp 0 0), (6, ni (N : Int)), (8, zl (flatR R)), (10, zl F), (11, .sl (Q.map dR)), (16, .lp 2 0), (17, ni ((2 * j : Nat) : Int))] [.bx 43 zC27, .dead, .bx 43 [ni a0, ni a1, ni a2, ni a3, .ow 3, ni 0, ni 0, ni 0, ni 0, ni 0, bo false, .nl, bo false, .nl, bo false, .nl, bo false, .nl, bo false, .nl, bo false, .nl, bo false, .nl, bo false, .nl, bo false, .nl, bo false, .nl, bo false, .nl, bo false, .nl, ni a4], .rw 58 2 (rfs (R.take j))]
theorem flat_el {p : Int × Int} (h : R[j]? = some p) : (zs (flatR R))[2 * j]? = some [ni p.1] ∧ (zs (flatR R))[2 * j + 1]? = some [ni p.2] := by
 have h1 := flatR_at h
 have g0 : (((flatR R).take (2 * (j + 1))).drop (2 * j))[0]? = some p.1 := by rw [h1]; rfl
 have g1 : (((flatR R).take (2 * (j + 1))).drop (2 * j))[1]? = some p.2 := by rw [h1]; rfl
 rw [List.getElem?_drop, List.getElem?_take] at g0 g1
 rw [if_pos (by omega)] at g0 g1
 exact ⟨zs_at g0, zs_at g1⟩
theorem r_end (K : CK l L a0 a1 a2 a3 a4 R f0 f1 f2 f3 f4 a b c) (hI : W.dN decQ 6 L = ([q0, q1, q2, q3, q4, q5], p, 0)) (hN : N = a + (b + (c + p))) : Gd PP 15 (.v (tuC (decC l))) (lp fD6 1) (rT R a0 a1 a2 a3 a4 [f0, f1, f2, f3, f4] [q0, q1, q2, q3, q4, q5] N 0) := by
 have hR := K.hR
 rw [K.hL] at hI
 rw [decC_0 K.h1 K.h2 K.h3 hI, ← hN]
 have hc : mkC ([a0, a1, a2, a3, a4], flatR R, [f0, f1, f2, f3, f4], [q0, q1, q2, q3, q4, q5]) = ⟨a0, a1, a2, a3, R, ⟨f0, f1, f2, f3, f4, q0, q1, q2, q3, q4, q5⟩, a4⟩ := by
  unfold mkC
  rw [pairs_flat]
  rfl
 rw [hc]
 have hl := flatR_len R
 refine Gd.loop (rT R a0 a1 a2 a3 a4 [f0, f1, f2, f3, f4] [q0, q1, q2, q3, q4, q5] N) (fun j => j ≤ R.length) (fun j => R.length - j) ?_ 0 (Nat.zero_le _)
 intro j hj ih
 by_cases h : j < R.length
 · obtain ⟨x, hx, _⟩ := get_of h
   obtain ⟨s0, s1⟩ := flat_el hx
   have hnx : rfs (R.take j) ++ rfs [x] = rfs (R.take (j + 1)) := by rw [List.take_add_one, hx]; unfold rfs; rw [List.map_append]; rfl
   exact .to mo_ [.mv 3 5] [2, 6, 8, 10, 11, 16, 17] [0, 2, 3] 4 [inc 111 (2 * j) (by omega), .eqv 113 (ni ((zs (flatR R)).length : Int)) (ni ((flatR R).length : Int)) (by rw [zs_len]), ye (t := decide (((2 * j + 1 : Nat) : Int) < ((flatR R).length : Int))) (decide_eq_true (by omega)), .sel _ _ _ s0, inc 125 (2 * j) (by omega), .sel _ _ _ s1, .app (rfs (R.take j)) (rfs [x]) (rfs (R.take (j + 1))) 2000000 hnx Nat.zero_lt_one (by rw [rfs_len, List.length_take]; omega), wq 116 (((2 * j : Nat) : Int) + 2) ((2 * (j + 1) : Nat) : Int) (by omega)] (ih (j + 1) h (by omega)) (by kernel_rfl)
 · have hj2 : j = R.length := by omega
   subst hj2
   have ht : rT R a0 a1 a2 a3 a4 [f0, f1, f2, f3, f4] [q0, q1, q2, q3, q4, q5] N R.length = at_ fD6 [(2, .lp 0 0), (6, ni (N : Int)), (8, zl (flatR R)), (10, zl [f0, f1, f2, f3, f4]), (11, .sl ([q0, q1, q2, q3, q4, q5].map dR)), (16, .lp 2 0), (17, ni ((2 * R.length : Nat) : Int))] [.bx 43 zC27, .dead, .bx 43 [ni a0, ni a1, ni a2, ni a3, .ow 3, ni 0, ni 0, ni 0, ni 0, ni 0, bo false, .nl, bo false, .nl, bo false, .nl, bo false, .nl, bo false, .nl, bo false, .nl, bo false, .nl, bo false, .nl, bo false, .nl, bo false, .nl, bo false, .nl, bo false, .nl, ni a4], .rw 58 2 (rfs R)] := by unfold rT; rw [List.take_length]
   rw [ht]
   exact fi [inc 111 (2 * R.length) (by omega), .eqv 113 (ni ((zs (flatR R)).length : Int)) (ni ((flatR R).length : Int)) (by rw [zs_len]), na (t := decide (((2 * R.length + 1 : Nat) : Int) < ((flatR R).length : Int))) (decide_eq_false (by omega)), .sel (zs [f0, f1, f2, f3, f4]) 0 [ni f0] rfl, .sel (zs [f0, f1, f2, f3, f4]) 1 [ni f1] rfl, .sel (zs [f0, f1, f2, f3, f4]) 2 [ni f2] rfl, .sel (zs [f0, f1, f2, f3, f4]) 3 [ni f3] rfl, .sel (zs [f0, f1, f2, f3, f4]) 4 [ni f4] rfl, .sel ([q0, q1, q2, q3, q4, q5].map dR) 0 (dR q0) rfl, .sel ([q0, q1, q2, q3, q4, q5].map dR) 1 (dR q1) rfl, .sel ([q0, q1, q2, q3, q4, q5].map dR) 2 (dR q2) rfl, .sel ([q0, q1, q2, q3, q4, q5].map dR) 3 (dR q3) rfl, .sel ([q0, q1, q2, q3, q4, q5].map dR) 4 (dR q4) rfl, .sel ([q0, q1, q2, q3, q4, q5].map dR) 5 (dR q5) rfl] (by kernel_rfl) (by kernel_rfl)
theorem six_of {α : Type} {l : List α} (h : l.length = 6) : ∃ a b c d e f, l = [a, b, c, d, e, f] := by
 match l, h with
 | [a, b, c, d, e, f], _ => exact ⟨a, b, c, d, e, f, rfl⟩
theorem r_rats (K : CK l L a0 a1 a2 a3 a4 R f0 f1 f2 f3 f4 a b c) (hN : N = a + b + c) : Gd PP 15 (.v (tuC (decC l))) (lp fD6 0) (rS l [a0, a1, a2, a3, a4] R [f0, f1, f2, f3, f4] N (0, [], 0)) := by
 have hb := K.hb
 have ha := K.ha
 have hL : L = l.drop N := by rw [K.hL, List.drop_drop, List.drop_drop, hN, Nat.add_assoc]
 have hLl : L.length = l.length - N := by rw [hL, List.length_drop]
 refine Gd.loop (rS l [a0, a1, a2, a3, a4] R [f0, f1, f2, f3, f4] N) (fun x => x.1 ≤ 6 ∧ x.2.1.length = x.1 ∧ x.2.2 ≤ L.length ∧ W.dN decQ 6 L = W.seqD decQ L (6 - x.1) x.2.2 x.2.1) (fun x => 6 - x.1) ?_ (0, [], 0) ⟨Nat.zero_le _, rfl, Nat.zero_le _, rfl⟩
 rintro ⟨i, acc, p⟩ ⟨hi, hac, hp, hI⟩ ih
 simp only at hi hac hp hI ih
 by_cases h : i < 6
 · have c1 := e_rdec4 (L.drop p) (by rw [List.length_drop]; omega)
   have hle := decQ_le (L.drop p)
   have hd2 : L.drop p = l.drop (N + p) := by rw [hL, List.drop_drop]
   rw [List.length_drop] at hle
   rw [show 6 - i = (6 - (i + 1)) + 1 by omega] at hI
   rcases hd : decQ (L.drop p) with ⟨q, u, e⟩
   rw [hd] at c1 hle
   rw [hd2] at c1
   simp only at hle
   by_cases he : e = 0
   · subst he
     rw [W.seqD_0 hd] at hI
     have hap : acc.map dR ++ [q].map dR = (acc ++ [q]).map dR := by rw [List.map_append]
     exact .to mo_ [.mv 1 4] [0, 2, 5, 6, 8, 10, 11, 12] [0, 1] 2 [ye (t := decide ((i : Int) < 6)) (decide_eq_true (by omega)), slD l (N + p) (by omega), cl c1, nf, .app (acc.map dR) ([q].map dR) ((acc ++ [q]).map dR) 1000 hap Nat.zero_lt_one (by rw [List.length_map, List.length_append, hac]; simp; omega), wq 93 (((N + p : Nat) : Int) + (u : Int)) ((N + (p + u) : Nat) : Int) (by omega), inc 74 i (by omega)] (ih (i + 1, acc ++ [q], p + u) ⟨h, by simp [hac], by simp only; omega, hI⟩ (by simp only; omega)) (by kernel_rfl)
   · rw [W.seqD_e hd he, K.hL] at hI
     rw [decC_4 K.h1 K.h2 K.h3 hI he, tuC_0]
     exact fi [ye (t := decide ((i : Int) < 6)) (decide_eq_true (by omega)), slD l (N + p) (by omega), cl c1, ye (t := e != 0) (by simpa using he)] (by kernel_rfl) (by kernel_rfl)
 · have hi2 : i = 6 := by omega
   subst hi2
   obtain ⟨q0, q1, q2, q3, q4, q5, rfl⟩ := six_of hac
   exact .to mo_ [.fz 11, .oc 2 4 (.rw 58 2 [])] [2, 6, 8, 10, 11, 16, 17] [0, 2, 3] 4 [nf, .sel (zs [a0, a1, a2, a3, a4]) 0 [ni a0] rfl, .sel (zs [a0, a1, a2, a3, a4]) 1 [ni a1] rfl, .sel (zs [a0, a1, a2, a3, a4]) 2 [ni a2] rfl, .sel (zs [a0, a1, a2, a3, a4]) 3 [ni a3] rfl, .sel (zs [a0, a1, a2, a3, a4]) 4 [ni a4] rfl] (r_end (N := N + p) K hI (by omega)) (by kernel_rfl)
theorem e_cdec6 (l : List UInt8) (hb : l.length ≤ 1000000) : Pure PP 15 [.sl (byL l)] (tuC (decC l)) := by
 have c1 := e_rgetints l hb
 have k1 : (W.decI l).1.length ≤ l.length ∧ (W.decI l).2.1 ≤ l.length := W.decL_le W.codec_int l
 rcases hd1 : W.decI l with ⟨A, a, e1⟩
 rw [hd1] at c1 k1
 simp only at k1
 by_cases he1 : e1 = 0
 · subst he1
   let G1 : List F_ := [cl c1, nf, .eqv 29 (ni ((zs A).length : Int)) (ni (A.length : Int)) (by rw [zs_len])]
   by_cases hA : A.length = 5
   · have r1 := W.dL_0 5 hd1 hA
     have c2 := e_rgetints (l.drop a) (by rw [List.length_drop]; omega)
     have k2 : (W.decI (l.drop a)).1.length ≤ (l.drop a).length ∧ (W.decI (l.drop a)).2.1 ≤ (l.drop a).length := W.decL_le W.codec_int _
     rcases hd2 : W.decI (l.drop a) with ⟨E, b, e2⟩
     rw [hd2] at c2 k2
     simp only [List.length_drop] at k2
     let G2 : List F_ := G1 ++ [na (t := (A.length : Int) != 5) (by simp; omega), slD l a k1.2, cl c2]
     by_cases he2 : e2 = 0
     · subst he2
       have hm : (E.length : Int).tmod 2 = ((E.length % 2 : Nat) : Int) := rfl
       let G3 : List F_ := G2 ++ [nf, .eqv 45 (ni ((zs E).length : Int)) (ni (E.length : Int)) (by rw [zs_len]), .eqv 46 (ni ((E.length : Int).tmod 2)) (ni ((E.length % 2 : Nat) : Int)) (by rw [hm])]
       by_cases hE : E.length % 2 = 0
       · have r2 := W.dEv_0 hd2 hE
         have c3 := e_rgetints ((l.drop a).drop b) (by simp only [List.length_drop]; omega)
         have k3 : (W.decI ((l.drop a).drop b)).1.length ≤ ((l.drop a).drop b).length ∧ (W.decI ((l.drop a).drop b)).2.1 ≤ ((l.drop a).drop b).length := W.decL_le W.codec_int _
         rcases hd3 : W.decI ((l.drop a).drop b) with ⟨F, c, e3⟩
         rw [hd3] at c3 k3
         simp only [List.length_drop] at k3
         rw [List.drop_drop] at c3
         let G4 : List F_ := G3 ++ [na (t := ((E.length % 2 : Nat) : Int) != 0) (by simp; omega), wq 51 ((a : Int) + (b : Int)) ((a + b : Nat) : Int) (by omega), slD l (a + b) (by omega), cl c3]
         by_cases he3 : e3 = 0
         · subst he3
           let G5 : List F_ := G4 ++ [nf, .eqv 65 (ni ((zs F).length : Int)) (ni (F.length : Int)) (by rw [zs_len])]
           by_cases hF : F.length = 5
           · have r3 := W.dL_0 5 hd3 hF
             obtain ⟨a0, a1, a2, a3, a4, rfl⟩ : ∃ a b c d e, A = [a, b, c, d, e] := by
              match A, hA with
              | [a, b, c, d, e], _ => exact ⟨a, b, c, d, e, rfl⟩
             obtain ⟨f0, f1, f2, f3, f4, rfl⟩ : ∃ a b c d e, F = [a, b, c, d, e] := by
              match F, hF with
              | [a, b, c, d, e], _ => exact ⟨a, b, c, d, e, rfl⟩
             obtain ⟨R, rfl⟩ : ∃ R, E = flatR R := ⟨pairs E, (flat_pairs E hE).symm⟩
             rw [flatR_len] at k2
             exact pf (by kernel_rfl) (.to mo_ [.ow 11 (.rw 35 4 [])] [0, 2, 5, 6, 8, 10, 11, 12] [0, 1] 2 (G5 ++ [nf, wq 70 (((a + b : Nat) : Int) + (c : Int)) ((a + b + c : Nat) : Int) (by omega)]) (r_rats (N := a + b + c) (L := ((l.drop a).drop b).drop c) ⟨r1, r2, r3, rfl, by omega, hb, by omega⟩ rfl) (by kernel_rfl))
           · rw [decC_3 r1 r2 (W.dL_n 5 hd3 hF) (by decide), tuC_0]
             exact tr (G5 ++ [ye (t := (F.length : Int) != 5) (by simp; omega)]) (by kernel_rfl)
         · rw [decC_3 r1 r2 (W.dL_e 5 hd3 he3) he3, tuC_0]
           exact tr (G4 ++ [ye (t := e3 != 0) (by simpa using he3)]) (by kernel_rfl)
       · rw [decC_2 r1 (W.dEv_n hd2 hE) (by decide), tuC_0]
         exact tr (G3 ++ [ye (t := ((E.length % 2 : Nat) : Int) != 0) (by simp; omega)]) (by kernel_rfl)
     · rw [decC_2 r1 (W.dEv_e hd2 he2) he2, tuC_0]
       exact tr (G2 ++ [ye (t := e2 != 0) (by simpa using he2)]) (by kernel_rfl)
   · rw [decC_1 (W.dL_n 5 hd1 hA) (by decide), tuC_0]
     exact tr (G1 ++ [ye (t := (A.length : Int) != 5) (by simp; omega)]) (by kernel_rfl)
 · rw [decC_1 (W.dL_e 5 hd1 he1) he1, tuC_0]
   exact tr [cl c1, ye (t := e1 != 0) (by simpa using he1)] (by kernel_rfl)
end
end Go.Proofs.YtjegnmlchioofaaGreatDoor.E.Ca
namespace Go.Proofs.YtjegnmlchioofaaGreatDoor.Shw
open Go
set_option linter.unusedVariables false
set_option linter.unusedSimpArgs false
abbrev Wd : Type := BitVec 32
def wi (x : Wd) : Int := (x.toNat : Int)
section
variable {x y : Wd} {n : Nat}
theorem w_lt (x : Wd) : x.toNat < 4294967296 := x.isLt
theorem w_xor (x y : Wd) : bits .xor .u32 (wi x) (wi y) = wi (x ^^^ y) := by
 unfold wi
 rw [u32_xor_nat _ _ (w_lt x) (w_lt y), BitVec.toNat_xor]
theorem w_and (x y : Wd) : bits .and .u32 (wi x) (wi y) = wi (x &&& y) := by
 unfold wi
 rw [u32_and_nat _ _ (w_lt x) (w_lt y), BitVec.toNat_and]
theorem w_or (x y : Wd) : bits .or .u32 (wi x) (wi y) = wi (x ||| y) := by
 unfold wi
 rw [u32_or_nat _ _ (w_lt x) (w_lt y), BitVec.toNat_or]
theorem w_add (x y : Wd) : IntKind.u32.wrap (wi x + wi y) = wi (x + y) := by
 unfold wi
 rw [IntKind.wrap_u32', BitVec.toNat_add]
 omega
theorem w_shl (x : Wd) (n : Nat) : IntKind.u32.wrap (wi x * 2 ^ n) = wi (x <<< n) := by
 unfold wi
 rw [IntKind.wrap_u32', BitVec.toNat_shiftLeft, Nat.shiftLeft_eq]
 have : ((x.toNat : Int) * 2 ^ n) = ((x.toNat * 2 ^ n : Nat) : Int) := by rw [Int.natCast_mul, Int.natCast_pow]; rfl
 rw [this]
 omega
theorem w_shr (x : Wd) (n : Nat) : (wi x).fdiv (2 ^ n) = wi (x >>> n) := by
 unfold wi
 rw [BitVec.toNat_ushiftRight, Nat.shiftRight_eq_div_pow, show ((2 : Int) ^ n) = ((2 ^ n : Nat) : Int) by rw [Int.natCast_pow]; rfl, Int.fdiv_eq_ediv_of_nonneg _ (Int.natCast_nonneg _)]
 rfl
theorem w_not (x : Wd) : x ^^^ 0xffffffff#32 = ~~~x := by
 exact BitVec.xor_allOnes
end
/-- A rotation to the right. -/
def rr (n : Nat) (x : Wd) : Wd := (x >>> n) ||| (x <<< (32 - n))
theorem rr_l (n : Nat) (x : Wd) : (x <<< (32 - n)) ||| (x >>> n) = rr n x := BitVec.or_comm _ _
def bs0 (x : Wd) : Wd := rr 2 x ^^^ rr 13 x ^^^ rr 22 x
def bs1 (x : Wd) : Wd := rr 6 x ^^^ rr 11 x ^^^ rr 25 x
def ss0 (x : Wd) : Wd := rr 7 x ^^^ rr 18 x ^^^ (x >>> 3)
def ss1 (x : Wd) : Wd := rr 17 x ^^^ rr 19 x ^^^ (x >>> 10)
def chW (e f g : Wd) : Wd := (e &&& f) ^^^ (~~~e &&& g)
def maW (a b c : Wd) : Wd := (a &&& b) ^^^ (a &&& c) ^^^ (b &&& c)
/-- A word of a block. -/
def bw (a b c d : UInt8) : Wd := (BitVec.ofNat 32 a.toNat <<< 24) ||| (BitVec.ofNat 32 b.toNat <<< 16) ||| (BitVec.ofNat 32 c.toNat <<< 8) ||| BitVec.ofNat 32 d.toNat
theorem or_fold (A B C D : Wd) : ((((((((0#32 <<< 8) ||| A) <<< 8) ||| B) <<< 8) ||| C) <<< 8) ||| D) = (A <<< 24) ||| (B <<< 16) ||| (C <<< 8) ||| D := by
 have h0 : (0#32 <<< 8 : Wd) = 0#32 := rfl
 rw [h0, BitVec.zero_or]
 simp only [BitVec.shiftLeft_or_distrib, ← BitVec.shiftLeft_add]
/-- The schedule: so many words of it. -/
def wordsU (b : List UInt8) : Nat → List Wd
 | 0 => []
 | t + 1 =>
  let w := wordsU b t
  w ++ [if t < 16 then bw (b.getD (4 * t) 0) (b.getD (4 * t + 1) 0) (b.getD (4 * t + 2) 0) (b.getD (4 * t + 3) 0) else w.getD (t - 16) 0 + ss0 (w.getD (t - 15) 0) + w.getD (t - 7) 0 + ss1 (w.getD (t - 2) 0)]
theorem wordsU_len (b : List UInt8) : ∀ t, (wordsU b t).length = t
 | 0 => rfl
 | t + 1 => by
  have := wordsU_len b t
  simp [wordsU, this]
structure S8 where
 a : Wd
 b : Wd
 c : Wd
 d : Wd
 e : Wd
 f : Wd
 g : Wd
 h : Wd
/-- A round. -/
def S8.round (s : S8) (k w : Wd) : S8 :=
 let x := s.h + bs1 s.e + chW s.e s.f s.g + k + w
 let y := bs0 s.a + maW s.a s.b s.c
 ⟨x + y, s.a, s.b, s.c, s.d + x, s.e, s.f, s.g⟩
def S8.add (s t : S8) : S8 := ⟨s.a + t.a, s.b + t.b, s.c + t.c, s.d + t.d, s.e + t.e, s.f + t.f, s.g + t.g, s.h + t.h⟩
/-- So many rounds. -/
def S8.rounds (K W : List Wd) (s : S8) : Nat → S8
 | 0 => s
 | t + 1 => (S8.rounds K W s t).round (K.getD t 0) (W.getD t 0)
def S8.block (K : List Wd) (s : S8) (b : List UInt8) : S8 := s.add (S8.rounds K (wordsU b 64) s 64)
/-- The whole blocks of a text. -/
def S8.blocks (K : List Wd) (s : S8) (m : List UInt8) : Nat → S8
 | 0 => s
 | n + 1 => (S8.blocks K s m n).block K ((m.drop (64 * n)).take 64)
end Go.Proofs.YtjegnmlchioofaaGreatDoor.Shw
