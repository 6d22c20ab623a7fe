/-
 No package variable is listed.
-/
import Derived.Test.YtlgnagnmoleeiaaGreatEzT
import Derived.Test.YtlgnagnmoleeiaaGreatMemI
import Derived.OpenShut
import Derived.Test.YtlgnagnmoleeiaaGreatPgN
import Derived.Carry
namespace Go.Proofs.YtlgnagnmoleeiaaGreat.E.Pc
open Go.RowKit
set_option linter.unusedVariables false
set_option linter.unusedSimpArgs false
noncomputable abbrev flE : Func := fnOf PP 8
abbrev GEd (td : List Item) (σ : St) : Prop := Gd PP 8 (.v (bo true)) td σ
noncomputable def leS1 (k : Int) (p : Ct.Pi) (m i : Nat) : St := at_ flE [(1, ni k), (5, .lp 0 0), (6, ni ((m + 1 : Nat) : Int)), (7, dL p.rimV), (8, .lp 1 0), (9, ni (i : Int))] [.bx 30 p.v, .bx 58 (dV (Ct.qv (sumE p.rim i)))]
noncomputable def leS2 (p : Ct.Pi) (Ks : List Int) (j : Nat) : St := at_ flE [(5, .lp 0 0), (8, .lp 1 0), (13, zl Ks), (14, ni (j : Int))] [.bx 30 p.v, .bx 58 (Ct.z4_ ++ Ct.z4_)]
/-- What the law needs of a piece. -/
structure Eg (p : Ct.Pi) (m : Nat) : Prop where
 ok : p.Ok 100
 n : p.rim.length = m + 1
 le : p.rim.length ≤ 100
 sm : ∀ c ∈ p.rim, (-12 ≤ c.1 ∧ c.1 ≤ 12) ∧ (-12 ≤ c.2 ∧ c.2 ≤ 12)
 pos : ∀ q, q < p.rim.length → 0 < sqV p.rim q
section
variable {l : List Int} {k : Int} {p : Ct.Pi} {Ks : List Int} {i j n m q : Nat}
theorem Eg.smp (h : Eg p m) : SmP p.rim := fun c hc => by
 have := h.sm c hc
 omega
theorem Eg.sq (h : Eg p m) (hq : q < p.rim.length) : sqV p.rim q < 1000000000 := by
 have key : ∀ i, i < p.rim.length → (-12 ≤ (cpt p.rim i).1 ∧ (cpt p.rim i).1 ≤ 12) ∧ (-12 ≤ (cpt p.rim i).2 ∧ (cpt p.rim i).2 ≤ 12) := fun i hi => h.sm _ (by unfold cpt; rw [List.getD_eq_getElem?_getD, List.getElem?_eq_getElem hi]; exact List.getElem_mem hi)
 have k1 := key q hq
 have k2 := key ((q + 1) % p.rim.length) (Nat.mod_lt _ (by omega))
 have a : -24 ≤ (edV p.rim q).1 ∧ (edV p.rim q).1 ≤ 24 := by unfold edV; dsimp only; omega
 have b : -24 ≤ (edV p.rim q).2 ∧ (edV p.rim q).2 ≤ 24 := by unfold edV; dsimp only; omega
 have sq : ∀ x : Int, -24 ≤ x ∧ x ≤ 24 → x * x ≤ 1000 := fun x hx => by
  have h3 : x.natAbs ≤ 24 := by omega
  have h4 := Nat.mul_le_mul h3 h3
  rw [← Int.natAbs_mul] at h4
  have h5 : x * x ≤ ((x * x).natAbs : Int) := by omega
  omega
 have s1 := sq _ a
 have s2 := sq _ b
 unfold sqV
 omega
/-- Edges of any numbers. -/
theorem le_2 (h : Eg p m) (hk : ∀ x ∈ Ks, W.Is64 x) (hl : Ks.length ≤ 10) : GEd (lp flE 1) (leS2 p Ks 0) := by
 have hp0 := h.ok.n.1
 have hle := h.le
 refine Gd.loop (leS2 p Ks) (fun j => j ≤ Ks.length) (fun j => Ks.length - j) ?_ 0 (Nat.zero_le _)
 intro j hj ih
 have hzl := zs_len Ks
 by_cases g : j < Ks.length
 · have nx := ih (j + 1) g (by omega)
   obtain ⟨x, hx, hm⟩ := Ct.get_of g
   have hx64 := hk x hm
   have e := zs_at hx
   have hq := ed_lt (k := x) hp0
   have c1 := e_edgeV (k := x) hp0 (by omega) h.smp hx64
   have c2 := e_edge12 (k := x) h.ok (by omega) h.smp
   have s1 := same_v (Ct.qv (edV p.rim (edK x p.rim.length)))
   have c3 := e_square (k := x) hp0 (by omega) h.smp hx64
   have c4 := e_square12 (k := x) h.ok (by omega) h.smp (h.pos _ hq) (h.sq hq)
   unfold leS2 at nx ⊢
   generalize p.v = PV at *
   generalize zs Ks = Z at *
   generalize Ct.qv (edV p.rim (edK x p.rim.length)) = E at *
   generalize sqV p.rim (edK x p.rim.length) = S at *
   exact .to mo_ [] [5, 8, 13, 14] [0, 1] 2 [.eqv 95 (ni (Z.length : Int)) (ni (Ks.length : Int)) (by rw [hzl]), ye (t := decide ((j : Int) < (Ks.length : Int))) (decide_eq_true (by omega)), .sel _ _ _ e, cl c1, .sel _ _ _ e, cl c2, cl s1, nf, .sel _ _ _ e, cl c3, .sel _ _ _ e, cl c4, na (t := (S != S)) (by simp), inc 98 j (by omega)] nx (by kernel_rfl)
 · have e : j = Ks.length := by omega
   subst e
   have s := same_v (0, 0)
   rw [Ct.dV_00] at s
   unfold leS2
   generalize p.v = PV at *
   generalize zs Ks = Z at *
   exact fi [.eqv 95 (ni (Z.length : Int)) (ni (Ks.length : Int)) (by rw [hzl]), na (t := decide ((Ks.length : Int) < (Ks.length : Int))) (decide_eq_false (by omega)), cl s, yt, cl e_lives] (by kernel_rfl) (by kernel_rfl)
/-- All edges. -/
theorem le_1 (h : Eg p m) (hk : W.Is64 k) : GEd (lp flE 0) (leS1 k p m 0) := by
 have hp0 := h.ok.n.1
 have hle := h.le
 have hn := h.n
 have hvl : p.rimV.length = p.rim.length := List.length_map ..
 refine Gd.loop (leS1 k p m) (fun i => i ≤ m + 1) (fun i => m + 1 - i) ?_ 0 (Nat.zero_le _)
 intro i hi ih
 by_cases g : i < m + 1
 · have nx := ih (i + 1) g (by omega)
   have hi' : i < p.rim.length := by omega
   have c1 := e_edgeV (k := (i : Int)) hp0 (by omega) h.smp ⟨by omega, by omega⟩
   have c3 := e_square (k := (i : Int)) hp0 (by omega) h.smp ⟨by omega, by omega⟩
   rw [edK_nat hi'] at c1 c3
   have bi := h.smp
   have hin := cpt_in h.smp hi'
   have hin0 := cpt_in h.smp hp0
   have hinm := cpt_in h.smp (Nat.mod_lt i hp0)
   have hsm : ∀ q, q < p.rim.length → (-12 ≤ (cpt p.rim q).1 ∧ (cpt p.rim q).1 ≤ 12) ∧ (-12 ≤ (cpt p.rim q).2 ∧ (cpt p.rim q).2 ≤ 12) := fun q hq => h.sm _ (by unfold cpt; rw [List.getD_eq_getElem?_getD, List.getElem?_eq_getElem hq]; exact List.getElem_mem hq)
   have t1 := hsm _ (Nat.mod_lt i hp0)
   have t2 := hsm 0 hp0
   have t3 := hsm _ (Nat.mod_lt (i + 1) hp0)
   have t4 := hsm i hi'
   have bS : Bv 20 (Ct.qv (sumE p.rim i)) := qv_bv (by unfold sumE; dsimp only; omega)
   have bE : Bv 20 (Ct.qv (edV p.rim i)) := qv_bv (by unfold edV; dsimp only; omega)
   have bC : Bv 20 (Ct.qv (cpt p.rim i)) := qv_bv (by omega)
   have ca := e_vadd bS bE (by show 10 * (_ + _) + _ ≤ _; omega)
   rw [sumE_next hi'] at ca
   have cd := e_vdot bE bE (by show 10 * (_ + _) + _ ≤ _; omega)
   rw [dot_q] at cd
   have cw := e_whole (h.pos i hi') (h.sq hi')
   change Pure PP _ _ (.ag (dR (Rat.divInt (sqV p.rim i) 1))) at cd
   have cn := e_vadd bC bE (by show 10 * (_ + _) + _ ≤ _; omega)
   rw [cor_next hi'] at cn
   have cx := e_next (L := p.rimV) (i := i) (by omega) (by omega)
   rw [cor_q hp0] at cx
   have sm := same_v (Ct.qv (cpt p.rim ((i + 1) % p.rim.length)))
   have e1 : (p.rimV.map dV)[i]? = some (dV (Ct.qv (cpt p.rim i))) := by
    unfold Ct.Pi.rimV cpt
    rw [List.getElem?_map, List.getElem?_map, List.getD_eq_getElem?_getD, List.getElem?_eq_getElem hi']
    rfl
   have hpos := h.pos i hi'
   unfold leS1 at nx ⊢
   generalize p.v = PV at *
   change Pure PP _ [.sl (p.rimV.map dV), _] _ at cx
   change Gd PP _ _ _ (at_ flE [_, _, _, (7, .sl (p.rimV.map dV)), _, _] _) at nx
   change Gd PP _ _ _ (at_ flE [_, _, _, (7, .sl (p.rimV.map dV)), _, _] _)
   generalize p.rimV.map dV = RM at *
   generalize Ct.qv (edV p.rim i) = E at *
   generalize Ct.qv (sumE p.rim i) = S0 at *
   generalize Ct.qv (sumE p.rim (i + 1)) = S1 at *
   generalize Ct.qv (cpt p.rim ((i + 1) % p.rim.length)) = C1 at *
   generalize Ct.qv (cpt p.rim i) = C0 at *
   generalize sqV p.rim i = Q at *
   generalize Rat.divInt Q 1 = D at *
   exact .to mo_ [] [1, 5, 6, 7, 8, 9] [0, 1] 2 [ye (t := decide ((i : Int) < ((m + 1 : Nat) : Int))) (decide_eq_true (by omega)), cl c1, cl ca, cl cd, cl cw, nf, cl c3, na (t := (Q != Q)) (by simp), na (t := decide (Q ≤ 0)) (decide_eq_false (by omega)), .sel _ _ _ e1, cl cn, cl cx, cl sm, nf, inc 43 i (by omega)] nx (by kernel_rfl)
 · have e : i = m + 1 := by omega
   subst e
   have hr := rnd_in k m
   have ca := E.e_around hk m
   let Ks : List Int := [k, Int.tdiv k 2, -1, -((m + 1 : Nat) : Int), ((m + 1 : Nat) : Int), rnd k m]
   have ht : -9223372036854775808 ≤ Int.tdiv k 2 ∧ Int.tdiv k 2 ≤ 9223372036854775807 := by
    obtain ⟨h1, h2⟩ := hk
    have h3 : (Int.tdiv k 2).natAbs = k.natAbs / 2 := Int.natAbs_tdiv k 2
    omega
   have n2 := le_2 (Ks := Ks) h (fun x hx => by
    simp only [Ks, List.mem_cons, List.not_mem_nil, or_false] at hx
    rcases hx with rfl | rfl | rfl | rfl | rfl | rfl
    · exact hk
    · exact ⟨ht.1, ht.2⟩
    · exact ⟨by omega, by omega⟩
    · exact ⟨by omega, by omega⟩
    · exact ⟨by omega, by omega⟩
    · exact ⟨by omega, by omega⟩) (Nat.le_of_ble_eq_true rfl)
   unfold leS1
   rw [← hn, sumE_end, sumE_0 hp0, Ct.dV_00, hn]
   unfold leS2 at n2
   change GEd _ (at_ flE [_, _, (13, .sl [[ni k], [ni (Int.tdiv k 2)], [ni (-1)], [ni (-((m + 1 : Nat) : Int))], [ni ((m + 1 : Nat) : Int)], [ni (rnd k m)]]), _] _) at n2
   generalize p.v = PV at *
   exact .to mo_ [] [5, 8, 13, 14] [0, 1] 2 [na (t := decide (((m + 1 : Nat) : Int) < ((m + 1 : Nat) : Int))) (decide_eq_false (by omega)), wq 85 (Int.tdiv k 2) (Int.tdiv k 2) ⟨rfl, ht.1, ht.2⟩, wq 87 (0 - ((m + 1 : Nat) : Int)) (-((m + 1 : Nat) : Int)) (by omega), cl ca, .ro] n2 (by kernel_rfl)
theorem p12_eg (l : List Int) : Eg (Ct.p12 l) ((Ct.p12 l).rim.length - 1) := by
 have hl := p12_len l
 exact ⟨p12_ok l, by omega, by omega, p12_sm l, fun q hq => sq_valid (p12_val l) hq⟩
theorem l_edges (hl : ∀ x ∈ l, W.Is64 x) (hk : W.Is64 k) : Pure PP 8 [zl l, ni k] (bo true) := by
 have cp := Ct.e_piece12 hl
 have h := p12_eg l
 generalize Ct.p12 l = p at *
 generalize p.rim.length - 1 = m at *
 have hn := h.n
 have hle := h.le
 have hp0 := h.ok.n.1
 have c1 := (Ct.e_rim h.ok).ro
 have c2 := (Ct.e_rim12 h.ok).ro
 have hvl : p.rimV.length = p.rim.length := List.length_map ..
 have cs := e_lsame p.rimV (by omega)
 have hr : (Ct.ptR p.rim).length = p.rim.length := List.length_map ..
 have hml : (p.rimV.map dV).length = p.rim.length := by rw [List.length_map, hvl]
 have n1 := le_1 h hk
 unfold leS1 at n1
 rw [sumE_0 hp0, Ct.dV_00] at n1
 have hv : p.v = [ni p.id, ni p.home, .sl (Ct.ptR p.rim), .sl (Ct.wnR p.worn), zl p.marks] ++ (dR p.tol ++ (dR p.light ++ (dR p.heavy ++ (dR p.str ++ dR p.rough)))) := rfl
 rw [hv] at *
 change Pure PP _ _ (.v (.sl (p.rimV.map dV))) at c1
 change Pure PP _ _ (.v (.sl (p.rimV.map dV))) at c2
 change Pure PP _ [.sl (p.rimV.map dV), .sl (p.rimV.map dV)] _ at cs
 change GEd _ (at_ flE [_, _, _, (7, .sl (p.rimV.map dV)), _, _] _) at n1
 generalize p.rimV.map dV = RM at *
 generalize Ct.ptR p.rim = PR at *
 generalize Ct.wnR p.worn = WR at *
 exact pf (by kernel_rfl) (.to mo_ [.wk 1] [1, 5, 6, 7, 8, 9] [0, 1] 2 [cl cp, .eqv 19 (ni (PR.length : Int)) (ni ((m + 1 : Nat) : Int)) (by rw [hr, hn]), cl c1, cl c2, cl cs, nf, .eqv 29 (ni (RM.length : Int)) (ni ((m + 1 : Nat) : Int)) (by rw [hml, hn]), na (t := (((m + 1 : Nat) : Int) != ((m + 1 : Nat) : Int))) (by simp), cl e_rim0, nf] n1 (by kernel_rfl))
end
end Go.Proofs.YtlgnagnmoleeiaaGreat.E.Pc
namespace Go.Proofs.YtlgnagnmoleeiaaGreat
open Go.RowKit
theorem is64_of {n : Int} (h : (Lit.int .i64 n).wf = true) : W.Is64 n := by
 have := bounds_i64 h
 unfold W.Is64
 omega
end Go.Proofs.YtlgnagnmoleeiaaGreat
namespace Go.Proofs.YtlgnagnmoleeiaaGreat.E
open Go.RowKit
set_option linter.unusedVariables false
theorem cb_of {w : World} {b o : Nat} {v : Value} (h : w.cell? ⟨b, o, none⟩ = some v) : CB w b := by
 unfold World.cell? at h
 split at h
 · rename_i cs T fr hb
   exact ⟨cs, T, fr, hb⟩
 · cases h
def Rt (X : World → Value → Prop) (w : World) (e : Ending) (w' : World) : Prop := ∃ v, e = .returned v ∧ X w' v ∧ Below w.heap.size w w'
theorem back {P : Program} {f : FuncId} {ds : List V} {d : V} (h : Pure P f ds d) {w : World} {args : Array Value} (ha : Reps w (fun _ => False) no args ds) : Calls P f args w (Rt (fun w v => Rep w (fun _ => False) no v d) w) :=
 (h.2 w (fun _ => False) args (fun _ h => h.elim) ha).mono fun e w' h => h
theorem to_tt {w w' : World} {e : Ending} (h : Rt (fun w v => Rep w (fun _ => False) no v (bo true)) w e w') : e = .returned (.bool true) ∧ Below w.heap.size w w' := by
 obtain ⟨v, rfl, h1, h2⟩ := h
 exact ⟨by rw [Rep.k_inv h1], h2⟩
/-- A law of any arguments. -/
theorem lawG {f : FuncId} {us : List Value} {ds : List V} {w : World} (h : Pure PP f ds (bo true)) (hg : Glo w (fun _ => False)) (hl : us.length = ds.length) (hr : ∀ j, j < ds.length → Rep w (fun _ => False) no (us.getD j undef) (ds.getD j .un)) :
    Calls PP f us.toArray w fun e w' => e = .returned (.bool true) ∧ Below w.heap.size w w' :=
 (back h (reps_of hl hg hr)).mono fun _ _ => to_tt
theorem all2 {p : Nat → Prop} (h0 : p 0) (h1 : p 1) : ∀ j, j < 2 → p j := fun j hj => by
 match j, hj with
 | 0, _ => exact h0
 | 1, _ => exact h1
end Go.Proofs.YtlgnagnmoleeiaaGreat.E
namespace Go.Proofs.YtlgnagnmoleeiaaGreat.E
open Go.RowKit
set_option linter.unusedVariables false
/-- The cells of a type. -/
inductive Sh where
 | bb
 | ii (k : IntKind)
 | ss
 | row (e : List Sh)
def shapeF (g : TypeId → Option (List Sh)) (c : TypeId → Nat) : Nat → List Field → Option (List Sh)
 | _, [] => some []
 | o, f :: r => match g f.type, shapeF g c (o + c f.type) r with
   | some l, some m => match Nat.beq f.offset o && Nat.beq l.length (c f.type) with
     | true => some (l ++ m)
     | false => none
   | _, _ => none
def shape (P : Program) : Nat → TypeId → Option (List Sh)
 | 0, _ => none
 | n + 1, t => match P.underlying t with
   | some .bool => some [.bb]
   | some (.int k) => some [.ii k]
   | some .string => some [.ss]
   | some (.slice e) => match shape P n e with
     | some l => match Nat.beq l.length (P.cellsOf e) && Nat.blt 0 l.length with
       | true => some [.row l]
       | false => none
     | none => none
   | some (.struct fs) => match shapeF (shape P n) P.cellsOf 0 fs.toList with
     | some l => match Nat.beq l.length (P.cellsOf t) with
       | true => some l
       | false => none
     | none => none
   | _ => none
/-- What stands in such a cell. -/
inductive Fit : Sh → V → Prop
 | b (x : Bool) : Fit .bb (.k (.bool x))
 | i (k : IntKind) (n : Int) (h : (Lit.int k n).wf = true) : Fit (.ii k) (.k (.int k n))
 | s (x : ByteArray) (h : x.size ≤ maxLen) : Fit .ss (.k (.string x))
 | row (e : List Sh) (l : List (List V)) (h0 : l.length ≤ maxLen) (h1 : ∀ cs ∈ l, cs.length = e.length) (h2 : ∀ cs ∈ l, ∀ (j : Nat) (sh : Sh) (x : V), e[j]? = some sh → cs[j]? = some x → Fit sh x) : Fit (.row e) (.sl l)
def FitL (e : List Sh) (xs : List V) : Prop := xs.length = e.length ∧ ∀ (j : Nat) (sh : Sh) (x : V), e[j]? = some sh → xs[j]? = some x → Fit sh x
abbrev FA : Nat → Prop := fun _ => False
def RepL (w : World) (cs : List Value) (xs : List V) : Prop := ∀ (j : Nat) (v : Value) (d : V), cs[j]? = some v → xs[j]? = some d → Rep w FA no v d
theorem FitL.nil : FitL [] [] := ⟨rfl, fun j sh x h => by simp at h⟩
theorem FitL.one {q : Sh} {x : V} (h : Fit q x) : FitL [q] [x] := ⟨rfl, fun j sh y h1 h2 => by
 match j with
 | 0 => simp at h1 h2; subst h1; subst h2; exact h
 | j + 1 => simp at h1⟩
theorem FitL.app {e f : List Sh} {xs ys : List V} (h : FitL e xs) (g : FitL f ys) : FitL (e ++ f) (xs ++ ys) := by
 refine ⟨by rw [List.length_append, List.length_append, h.1, g.1], fun j sh x h1 h2 => ?_⟩
 by_cases hj : j < e.length
 · rw [List.getElem?_append_left hj] at h1
   rw [List.getElem?_append_left (by rw [h.1]; exact hj)] at h2
   exact h.2 j sh x h1 h2
 · rw [List.getElem?_append_right (by omega)] at h1
   rw [List.getElem?_append_right (by rw [h.1]; omega), h.1] at h2
   exact g.2 _ sh x h1 h2
section
variable {H : Type} {enc : TypeId × Value → H} {P : Program} {w : World}
theorem fields_rep {g : TypeId → Option (List Sh)} {c : TypeId → Nat} {α : Type} {tr : TypeId → List Value → Option α} {cs : List Value} (hg : ∀ t cs' x l, tr t cs' = some x → g t = some l → cs'.length = l.length ∧ ∃ xs, FitL l xs ∧ RepL w cs' xs) :
  ∀ (r : List Field) (o : Nat) (l : List Sh), shapeF g c o r = some l → (∀ f ∈ r, ∃ x, tr f.type ((cs.drop f.offset).take (c f.type)) = some x) → ∃ xs, FitL l xs ∧ RepL w (cs.drop o) xs
 | [], o, l, h, _ => by
  simp only [shapeF, Option.some.injEq] at h
  subst h
  exact ⟨[], FitL.nil, fun j v d _ h => by simp at h⟩
 | f :: r, o, l, h, ht => by
  simp only [shapeF] at h
  split at h
  · rename_i l1 l2 e1 e2
    split at h
    · rename_i hc
      simp only [Bool.and_eq_true, Nat.beq_eq] at hc
      injection h with h
      subst h
      obtain ⟨x, hx⟩ := ht f (List.mem_cons_self ..)
      obtain ⟨h1, xs, h2, h3⟩ := hg _ _ _ _ hx e1
      obtain ⟨ys, h4, h5⟩ := fields_rep hg r _ _ e2 fun f hf => ht f (List.mem_cons_of_mem _ hf)
      refine ⟨xs ++ ys, h2.app h4, fun j v d hv hd => ?_⟩
      rw [hc.1] at h3
      by_cases hj : j < l1.length
      · rw [List.getElem?_append_left (by rw [h2.1]; exact hj)] at hd
        refine h3 j v d ?_ hd
        rw [List.getElem?_take, if_pos (by omega)]
        exact hv
      · rw [List.getElem?_append_right (by rw [h2.1]; omega), h2.1] at hd
        refine h5 (j - l1.length) v d ?_ hd
        rw [List.getElem?_drop] at hv ⊢
        rw [show o + c f.type + (j - l1.length) = o + j by omega]
        exact hv
    · cases h
  · cases h
theorem trod_rep : ∀ (fuel n : Nat) (t : TypeId) (cs : List Value) (x : DataW H × List MemPlace) (l : List Sh), DataW.trod enc P w 0 (fun _ => true) true fuel t cs = some x → shape P n t = some l → cs.length = l.length ∧ ∃ xs, FitL l xs ∧ RepL w cs xs := by
 intro fuel
 induction fuel with
 | zero => intro n t cs x l h; simp [DataW.trod] at h
 | succ fuel ih =>
  intro n t cs x l h hs
  cases n with
  | zero => cases hs
  | succ n =>
   have one : ∀ {q : Sh} {v : Value} {d : V}, Fit q d → Rep w FA no v d → [v].length = [q].length ∧ ∃ xs, FitL [q] xs ∧ RepL w [v] xs := fun {q v d} h1 h2 => ⟨rfl, [d], FitL.one h1, fun j v' d' e1 e2 => by
    match j with
    | 0 => simp at e1 e2; subst e1; subst e2; exact h2
    | j + 1 => simp at e1⟩
   unfold shape at hs
   split at hs
   · rename_i hu
     injection hs with hs; subst hs
     unfold DataW.trod at h
     rw [hu] at h
     split at h <;> simp_all
     exact one (.b _) (.k _ _)
   · rename_i k hu
     injection hs with hs; subst hs
     unfold DataW.trod at h
     rw [hu] at h
     split at h <;> simp_all
     obtain ⟨⟨rfl, h1⟩, _⟩ := h
     exact one (.i _ _ h1) (.k _ _)
   · rename_i hu
     injection hs with hs; subst hs
     unfold DataW.trod at h
     rw [hu] at h
     split at h <;> simp_all
     exact one (.s _ h.1) (.k _ _)
   · rename_i e hu
     split at hs
     · rename_i l' hl'
       split at hs
       · rename_i hc
         simp only [Bool.and_eq_true, Nat.beq_eq, Nat.blt_eq] at hc
         injection hs with hs; subst hs
         rcases DataW.trod_slice hu h with ⟨rfl, _⟩ | ⟨a, len, cap, elems, rest, n', hn', rfl, rfl, hb, hl, hm, hlen, hel, hsp, hns⟩
         · exact one (.row l' [] (by simp) (by simp) (by simp)) (.sl _ none 0 0 0 l'.length [] (fun _ _ => undef) (Nat.zero_le _) (Nat.zero_le _) (by simp) (by simp) (by simp) (by simp))
         · obtain rfl : fuel = n' := by omega
           have he : ∀ i, i < len → ∃ xs, FitL l' xs ∧ ∀ j d, xs[j]? = some d → ∃ v, w.cell? (a.add (i * P.cellsOf e) |>.add j) = some v ∧ Rep w FA no v d := by
            intro i hi
            have hq := hel i hi
            rw [List.getElem?_eq_getElem (by omega)] at hq
            obtain ⟨cs', h1, h2⟩ := Option.bind_eq_some_iff.1 hq
            obtain ⟨h3, xs, h4, h5⟩ := ih n e cs' _ l' h2 hl'
            obtain ⟨_, h6, h7⟩ := World.cells?_some h1
            refine ⟨xs, h4, fun j d hd => ?_⟩
            have hjl := (List.getElem?_eq_some_iff.1 hd).1
            rw [h4.1] at hjl
            have hv : cs'[j]? = some cs'[j] := List.getElem?_eq_getElem (by omega)
            exact ⟨_, (h7 j (by omega)).trans hv, h5 j _ d hv hd⟩
           by_cases h0 : len = 0
           · subst h0
             exact one (.row l' [] (by simp) (by simp) (by simp)) (.sl _ (some a) 0 0 cap l'.length [] (fun _ _ => undef) (Nat.zero_le _) hm (by simp) (by simp) (by simp) (by simp))
           · have hch : ∃ F : Nat → List V, ∀ i, i < len → FitL l' (F i) ∧ ∀ j d, (F i)[j]? = some d → ∃ v, w.cell? (a.add (i * P.cellsOf e) |>.add j) = some v ∧ Rep w FA no v d :=
              ⟨fun i => if h : i < len then (he i h).choose else [], fun i hi => by simp only [dif_pos hi]; exact (he i hi).choose_spec⟩
             obtain ⟨F, hF⟩ := hch
             obtain ⟨b, o, spot⟩ := a
             have hspot : spot = none := by
              obtain ⟨h1, h2⟩ := hF 0 (by omega)
              have hlt : 0 < (F 0).length := by rw [h1.1]; exact hc.2
              obtain ⟨v, h3, _⟩ := h2 0 _ (List.getElem?_eq_getElem hlt)
              simpa [Addr.add] using World.cell?_spot h3
             subst hspot
             have hadd : ∀ i j : Nat, ((⟨b, o, none⟩ : Addr).add (i * P.cellsOf e)).add j = ⟨b, o + i * l'.length + j, none⟩ := fun i j => by rw [hc.1, Go.WideShapes.add_plain, Go.WideShapes.add_plain]
             let L : List (List V) := (List.range len).map F
             have hL : L.length = len := by simp [L]
             have hLi : ∀ i cs, L[i]? = some cs → i < len ∧ cs = F i := fun i cs hi => by
              have hlt := (List.getElem?_eq_some_iff.1 hi).1
              rw [hL] at hlt
              simp only [L, List.getElem?_map, List.getElem?_range hlt, Option.map_some, Option.some.injEq] at hi
              exact ⟨hlt, hi.symm⟩
             have hmem : ∀ cs ∈ L, ∃ i, i < len ∧ cs = F i := fun cs hcs => by
              obtain ⟨i, hi⟩ := List.getElem?_of_mem hcs
              exact ⟨i, hLi i cs hi⟩
             have hr : Rep w FA no (.slice (some ⟨b, o, none⟩) L.length cap) (.sl L) := by
              refine .sl _ _ b o cap l'.length L (fun i j => (w.cell? ⟨b, o + i * l'.length + j, none⟩).getD undef) (by omega) hm (fun _ => ⟨rfl, fun e => e, ?_⟩) (fun cs hcs => ?_) (fun i j cs x hi hj => ?_) (fun i j cs x hi hj => ?_)
              · obtain ⟨h1, h2⟩ := hF 0 (by omega)
                have hlt : 0 < (F 0).length := by rw [h1.1]; exact hc.2
                obtain ⟨v, h3, _⟩ := h2 0 _ (List.getElem?_eq_getElem hlt)
                rw [hadd] at h3
                exact cb_of h3
              · obtain ⟨i, hi, rfl⟩ := hmem cs hcs
                exact (hF i hi).1.1
              · obtain ⟨hi', rfl⟩ := hLi i cs hi
                obtain ⟨v, h3, _⟩ := (hF i hi').2 j x hj
                rw [hadd] at h3
                rw [h3]; rfl
              · obtain ⟨hi', rfl⟩ := hLi i cs hi
                obtain ⟨v, h3, h4⟩ := (hF i hi').2 j x hj
                rw [hadd] at h3
                rw [h3]
                exact h4
             rw [hL] at hr
             refine one (.row l' L (by omega) (fun cs hcs => ?_) (fun cs hcs j sh x h1 h2 => ?_)) hr
             · obtain ⟨i, hi, rfl⟩ := hmem cs hcs
               exact (hF i hi).1.1
             · obtain ⟨i, hi, rfl⟩ := hmem cs hcs
               exact (hF i hi).1.2 j sh x h1 h2
       · cases hs
     · cases hs
   · rename_i fs hu
     split at hs
     · rename_i l' hl'
       split at hs
       · rename_i hc
         have hc := Nat.eq_of_beq_eq_true hc
         injection hs with hs; subst hs
         obtain ⟨xs, n', hn', _, h1, h2, h3⟩ := DataW.trod_struct hu h
         obtain rfl : fuel = n' := by omega
         obtain ⟨ys, h4, h5⟩ := fields_rep (w := w) (c := P.cellsOf) (tr := fun t cs => DataW.trod enc P w 0 (fun _ => true) true fuel t cs) (cs := cs) (fun t cs' x l a b => ih n t cs' x l a b) fs.toList 0 l' hl' (fun f hf => by
          obtain ⟨i, hi⟩ := List.getElem?_of_mem hf
          have hi2 : fs[i]? = some f := by simpa using hi
          have hlt := (Array.getElem?_eq_some_iff.1 hi2).1
          have h6 := h3 i f hi2
          rw [List.getElem?_eq_getElem (by omega)] at h6
          exact ⟨_, h6⟩)
         exact ⟨by omega, ys, h4, by simpa using h5⟩
       · cases hs
     · cases hs
   · cases hs
/-- An argument of one cell. -/
theorem arg_1 {n : Nat} {t : TypeId} {v : Value} {d : DataW H} {ps : List MemPlace} {q : Sh} (h : DataW.Trod enc P w 0 (fun _ => true) true t v d ps) (hv : v.cells = #[v]) (hs : shape P n t = some [q]) : ∃ x, Fit q x ∧ Rep w FA no v x := by
 obtain ⟨fuel, hf⟩ := h
 rw [hv] at hf
 obtain ⟨_, xs, h1, h2⟩ := trod_rep fuel n t _ _ _ hf hs
 match xs, h1 with
 | [x], h1 => exact ⟨x, h1.2 0 q x rfl rfl, h2 0 v x rfl rfl⟩
end
/-- A row of ints. -/
theorem Fit.ints {x : V} (h : Fit (.row [.ii .i64]) x) : ∃ l : List Int, x = zl l ∧ ∀ n ∈ l, W.Is64 n := by
 cases h with
 | row e l h0 h1 h2 =>
  clear h0
  suffices h : ∃ l' : List Int, l = zs l' ∧ ∀ n ∈ l', W.Is64 n by
   obtain ⟨l', rfl, h⟩ := h
   exact ⟨l', rfl, h⟩
  induction l with
  | nil => exact ⟨[], rfl, by simp⟩
  | cons a r ih =>
   obtain ⟨l', rfl, h3⟩ := ih (fun cs h => h1 cs (List.mem_cons_of_mem _ h)) (fun cs h => h2 cs (List.mem_cons_of_mem _ h))
   have hl := h1 a (List.mem_cons_self ..)
   have hf := h2 a (List.mem_cons_self ..)
   match a, hl with
   | [y], _ =>
    have hy := hf 0 _ y rfl rfl
    cases hy with
    | i k n hw => exact ⟨n :: l', rfl, fun m hm => by
      rcases List.mem_cons.1 hm with rfl | hm
      · exact is64_of hw
      · exact h3 m hm⟩
theorem FitL.inv {a : Sh} {r : List Sh} {xs : List V} (h : FitL (a :: r) xs) : ∃ x ys, xs = x :: ys ∧ Fit a x ∧ FitL r ys := by
 obtain ⟨h1, h2⟩ := h
 match xs, h1 with
 | x :: ys, h1 => exact ⟨x, ys, rfl, h2 0 a x rfl rfl, by simpa using h1, fun j sh y e1 e2 => h2 (j + 1) sh y (by simpa using e1) (by simpa using e2)⟩
theorem Fit.int {x : V} (h : Fit (.ii .i64) x) : ∃ n : Int, x = ni n ∧ W.Is64 n := by
 cases h with
 | i k n hw => exact ⟨n, rfl, is64_of hw⟩
theorem Fit.bool {x : V} (h : Fit .bb x) : ∃ b : Bool, x = bo b := by
 cases h with
 | b x => exact ⟨x, rfl⟩
end Go.Proofs.YtlgnagnmoleeiaaGreat.E
namespace Go.Proofs.YtlgnagnmoleeiaaGreat.E
open Go.RowKit
theorem gln_nil : gl = [] := by kernel_rfl
theorem glo_none (w : World) : Glo w (fun _ => False) := fun p hp => by rw [gln_nil] at hp; cases hp
end Go.Proofs.YtlgnagnmoleeiaaGreat.E
