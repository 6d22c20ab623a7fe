/-
 FLOWS WITH SHORT TEXTS: what each operation yields is told by a word of D, the operations' steps are a list of terms.
-/
import Derived.Test.YtcfejkpadcccbaaGreatDoS
import Derived.Test.YtcfejkpadcccbaaGreatFlowSI
namespace Go.Proofs.YtcfejkpadcccbaaGreat
set_option maxHeartbeats 1000000
open Go.RowKit
set_option linter.unusedVariables false
set_option linter.unusedSimpArgs false
attribute [local go_sem] run_store_one
/-- A pointer. -/
@[reducible] def pt (g o : Nat) : Value := .pointer (some ⟨g, o, none⟩)
@[reducible] def ni (n : Nat) : Value := .int .i64 (n : Int)
@[reducible] def sl_ (b o n c : Nat) : Value := .slice (some ⟨b, o, none⟩) n c
@[reducible] def ag_ (cs : Nat → Nat → Value) (i : Nat) : Value := .agg #[cs i 0, cs i 1, cs i 2, cs i 3, cs i 4, cs i 5, cs i 6, cs i 7]
theorem ev_ {F0 F : Act} (h : F0 = F) (t : Nat) (v : Value) (e : F0.eval (.tmp t) = v) : F.eval (.tmp t) = v := h ▸ e
theorem sz_ {F0 F : Act} (h : F0 = F) (n : Nat) (e : F0.tmps.size = n) : F.tmps.size = n := h ▸ e
theorem hq {p : Prop} (h : p) : Hid p := Lib.hid h
/-- What an operation yields: a known value, an integer, a rational, a vector, a new box, a guarded one, or whatever S says. -/
inductive D where
 | c (v : Value)
 | i (x : Int)
 | r (x : Rat)
 | v (x : Rat × Rat)
 | n (T : Nat) (Z : List Value)
 | g (C : Bool) (d : D)
 | s (S : Sp)
def D.sp (W : World) : D → Sp
 | .c u => SC u
 | .i x => SI x
 | .r x => SR x
 | .v x => SV x
 | .n _ _ => SA W
 | .g C d => SG C (d.sp W)
 | .s S => S
def D.dsp (W : World) : D → Sp
 | .n T Z => SB W T Z
 | .c u => SC u
 | .i x => SI x
 | .r x => SR x
 | .v x => SV x
 | .g C d => SG C (d.sp W)
 | .s S => S
def D.al : D → Bool
 | .n _ _ => true
 | _ => false
def D.plain : D → Bool
 | .s _ => false
 | .g _ d => d.plain
 | _ => true
def D.ok (kb : Bool) : D → Prop
 | .s S => if kb = true then MonoK S else Mono S
 | .g _ d => d.ok kb
 | _ => True
def DOk (kb : Bool) : List D → Prop
 | [] => True
 | d :: t => if d.plain = true then DOk kb t else d.ok kb ∧ DOk kb t
theorem D.ok_of {kb : Bool} : ∀ {d : D}, d.plain = true → d.ok kb
 | .c _, _ => trivial
 | .i _, _ => trivial
 | .r _, _ => trivial
 | .v _, _ => trivial
 | .n _ _, _ => trivial
 | .g _ d, h => D.ok_of (d := d) h
 | .s _, h => by cases h
theorem SG.mono {C : Bool} {S : Sp} (h : Mono S) : Mono (SG C S) := fun w w' v g k => by
 unfold SG at g ⊢
 split
 ·rename_i hC; rw [if_pos hC] at g; exact h _ _ _ g k
 ·rename_i hC; rw [if_neg hC] at g; exact g
theorem D.monoK {W : World} : ∀ {d : D}, d.ok true → MonoK (d.sp W)
 | .c u, _ => SC.monoK u
 | .i x, _ => SI.monoK x
 | .r x, _ => SR.monoK x
 | .v x, _ => SV.monoK x
 | .n _ _, _ => SA.monoK W
 | .g _ d, h => SG.monoK (D.monoK (d := d) h)
 | .s S, h => show MonoK S by simpa [D.ok] using h
theorem D.mono {W : World} : ∀ {d : D}, d.ok false → Mono (d.sp W)
 | .c u, _ => (SC.monoK u).mono
 | .i x, _ => (SI.monoK x).mono
 | .r x, _ => (SR.monoK x).mono
 | .v x, _ => (SV.monoK x).mono
 | .n _ _, _ => (SA.monoK W).mono
 | .g _ d, h => SG.mono (D.mono (d := d) h)
 | .s S, h => show Mono S by simpa [D.ok] using h
theorem DOk.cons {kb : Bool} {d : D} {t : List D} (h : DOk kb (d :: t)) : d.ok kb ∧ DOk kb t := by
 unfold DOk at h
 split at h
 ·rename_i hp; exact ⟨D.ok_of hp, h⟩
 ·exact h
theorem DOk.monoK {W : World} : ∀ {ds : List D}, DOk true ds → MonoKL (ds.map (D.sp W))
 | [], _ => trivial
 | _ :: _, h => ⟨D.monoK h.cons.1, DOk.monoK h.cons.2⟩
theorem DOk.mono {W : World} : ∀ {ds : List D}, DOk false ds → MonoL (ds.map (D.sp W))
 | [], _ => trivial
 | _ :: _, h => ⟨D.mono h.cons.1, DOk.mono h.cons.2⟩
theorem DOk.both {W : World} {kb : Bool} {ds : List D} {n m : Nat} (h : DOk kb ds) (hk : (kb || decide (m ≤ n)) = true) : MonoL (ds.map (D.sp W)) ∧ (MonoKL (ds.map (D.sp W)) ∨ m ≤ n) := by
 cases kb with
 | true => exact monoA h.monoK
 | false => exact ⟨h.mono, .inr (by simpa using hk)⟩
theorem D.imp {W : World} : ∀ d : D, ∀ w v, d.dsp W w v → d.sp W w v
 | .n T Z, w, u, h => SB.sa (T := T) (Z := Z) w u h
 | .c _, _, _, h => h
 | .i _, _, _, h => h
 | .r _, _, _, h => h
 | .v _, _, _, h => h
 | .g _ _, _, _, h => h
 | .s _, _, _, h => h
theorem D.impL {W : World} : ∀ ds : List D, ImpL (ds.map (D.dsp W)) (ds.map (D.sp W))
 | [] => trivial
 | d :: t => ⟨D.imp d, D.impL t⟩
/-- The values put into the slots of a table. -/
def valsT (val : Nat → Value) : List (Nat × List Nat) → Nat → List (Bool × Nat × Value)
 | [], _ => []
 | x :: r, k => (true, x.1, val k) :: valsT val r (k + 1)
theorem valsT_eq (val : Nat → Value) : ∀ (l : List (Nat × List Nat)) (k : Nat), vals (fun _ => true) val (l.map (·.1)) k = valsT val l k
 | [], _ => rfl
 | x :: r, k => by simp only [List.map_cons, vals, valsT, valsT_eq val r (k + 1)]
theorem Pu1 (val : Nat → Value) (t : Array Value) (e : List Deferred) (d : Nat) (l : List Nat) (r : List (Nat × List Nat)) (k : Nat) : puts (Act.mk t e) (valsT val ((d, l) :: r) k) = puts (Act.mk (t.setIfInBounds d (val k)) e) (valsT val r (k + 1)) := rfl
theorem Pu2 (val : Nat → Value) (t : Array Value) (e : List Deferred) (k : Nat) : puts (Act.mk t e) (valsT val [] k) = Act.mk t e := rfl
theorem Zs1 {α : Type} (l : List α) (i : Nat) (a : α) : l.toArray.setIfInBounds i a = (l.set i a).toArray := List.setIfInBounds_toArray ..
theorem Zs2 {α : Type} (x : α) (l : List α) (i : Nat) (a : α) : (x :: l).set (i + 1) a = x :: l.set i a := rfl
theorem Zs3 {α : Type} (x : α) (l : List α) (a : α) : (x :: l).set 0 a = a :: l := rfl
/-- With what is known of the slots j .., the goal. -/
def HaveC (specs : List Sp) (ts : List Nat) (wx : World) (a : Act) (goal : Prop) : List Nat → Prop
 | [] => goal
 | j :: r => nthS specs j wx (a.eval (.tmp (ts.getD j 0))) → HaveC specs ts wx a goal r
theorem HaveC.of {specs : List Sp} {ts : List Nat} {wx : World} {a : Act} {goal : Prop} : ∀ {l : List Nat}, HaveC specs ts wx a goal l → Have specs ts wx a l → goal
 | [], h, _ => h
 | _ :: _, h, g => HaveC.of (h g.1) g.2
theorem sto_Int {o : Oper} {a : Act} {wx : World} {g off : Nat} {p x : Operand} {l : List Value} {Tb : Nat} {x0 x1 l0 l1 : Value} (ho : o.op = .store 31 p x) (hp : a.eval p = .pointer (some ⟨g, off, none⟩)) (hv : a.eval x = .agg #[x0, x1]) (hx : Bx wx g Tb l) (h0 : l[off]? = some l0) (h1 : l[off + 1]? = some l1) (o0 : x0.oneCell' = true) (o1 : x1.oneCell' = true) :
  ∃ w', (execOp a.eval o).run Tryz.prog wx = .ok .skip w' ∧ Bx w' g Tb ((l.set off x0).set (off + 1) x1) ∧ Only g wx w' := by
 have c0 := hx.cell h0
 have c1 := hx.cell h1
 have hfr := hx.frozen
 have y0 := hx.set_ off x0
 have y1 := y0.set_ (off + 1) x1
 refine ⟨(wx.setCell ⟨g, off, none⟩ x0).setCell ⟨g, off + 1, none⟩ x1, ?_, y1, ((Only.refl _ _).set_ _ _).set_ _ _⟩
 clear y0 y1
 cases o with
 | mk dst op type pos after guard =>
 simp only at ho
 subst ho
 revert hp hv
 generalize a.eval = E
 intro hp hv
 simp [execOp, hp, hv, go_sem, hfr, c0, o0, c1, o1]
theorem HaveC.map {specs : List Sp} {ts : List Nat} {wx : World} {a : Act} {p q : Prop} (f : p → q) : ∀ {l : List Nat}, HaveC specs ts wx a p l → HaveC specs ts wx a q l
 | [], h => f h
 | _ :: _, h => fun x => HaveC.map f (h x)
section
variable (P : Program) (ops : Array Oper) (n m : Nat) (W : World) (F : Act) (ds : List D) (tab : List (Nat × List Nat)) (stos : List Sto) (Sg : List Nat)
/-- One operation's step. -/
def StepD (k : Nat) (d : D) (need : List Nat) : Prop := ∀ a wx, Tn Sg W wx → (∀ r s, stos[r]? = some s → s.al = none → reachB ops k ops.size (n + r) = true → n + r < m → Bx wx s.g s.T s.old) →
 (∀ s, (tab.map (·.1)).contains s = false → a.eval (.tmp s) = F.eval (.tmp s)) → HaveC (ds.map (D.sp W)) (tab.map (·.1)) wx a (∃ o, ops[k]? = some o ∧ DoesG P ops o (d.dsp W) d.al a wx) need
def StepL : Nat → List D → List (Nat × List Nat) → Prop
 | _, [], _ => True
 | _, _ :: _, [] => False
 | k, d :: t, x :: r => StepD P ops n m W F ds tab stos Sg k d x.2 ∧ StepL (k + 1) t r
/-- What is checked by looking. -/
def chkD (N : Nat) (dr kb : Bool) (nd ns : Nat) (stab : List (List Nat)) : Bool :=
 backB ops && (!dr || fullB ops m) && decide (m ≤ ops.size) && decide (n ≤ m) && headG ops n && tabB ops n tab && (tab.all fun x => decide (x.1 < N)) && decide (nd = n) && (kb || decide (m ≤ n)) &&
 (decide (m ≤ n + ns) && ((List.range (m - n)).all fun r => (stab.getD r []).all fun j => decide (j < n) && (predsOf ops (n + r)).contains j))
end
section
variable {P : Program} {ops : Array Oper} {n m : Nat} {W : World} {F : Act} {ds : List D} {tab : List (Nat × List Nat)} {stos : List Sto} {Sg : List Nat}
theorem st_ {k : Nat} {d : D} {t : List D} {x : Nat × List Nat} {r : List (Nat × List Nat)} (h : StepD P ops n m W F ds tab stos Sg k d x.2) (g : StepL P ops n m W F ds tab stos Sg (k + 1) t r) : StepL P ops n m W F ds tab stos Sg k (d :: t) (x :: r) := ⟨h, g⟩
/-- Steps without a guard: what uses neither worlds nor frames, what uses the world, what uses both. -/
theorem s0_ {k : Nat} {d : D} {t : List D} {x : Nat × List Nat} {r : List (Nat × List Nat)} {o : Oper} (e : ops[k]? = some o) (g : o.guard = none) (h : ∀ {a wx}, HaveC (ds.map (D.sp W)) (tab.map (·.1)) wx a (Does P o (d.dsp W) d.al a wx) x.2) (tl : StepL P ops n m W F ds tab stos Sg (k + 1) t r) : StepL P ops n m W F ds tab stos Sg k (d :: t) (x :: r) :=
 ⟨fun _ _ _ _ _ => HaveC.map (fun h => ⟨o, e, .inl ⟨wanted_none g, h⟩⟩) h, tl⟩
theorem s1_ {k : Nat} {d : D} {t : List D} {x : Nat × List Nat} {r : List (Nat × List Nat)} {o : Oper} (e : ops[k]? = some o) (g : o.guard = none) (h : ∀ {a} wx, Tn Sg W wx → HaveC (ds.map (D.sp W)) (tab.map (·.1)) wx a (Does P o (d.dsp W) d.al a wx) x.2) (tl : StepL P ops n m W F ds tab stos Sg (k + 1) t r) : StepL P ops n m W F ds tab stos Sg k (d :: t) (x :: r) :=
 ⟨fun _ wx hT _ _ => HaveC.map (fun h => ⟨o, e, .inl ⟨wanted_none g, h⟩⟩) (h wx hT), tl⟩
theorem s2_ {k : Nat} {d : D} {t : List D} {x : Nat × List Nat} {r : List (Nat × List Nat)} {o : Oper} (e : ops[k]? = some o) (g : o.guard = none) (h : ∀ {a} wx, Tn Sg W wx → (∀ s, (tab.map (·.1)).contains s = false → a.eval (.tmp s) = F.eval (.tmp s)) → HaveC (ds.map (D.sp W)) (tab.map (·.1)) wx a (Does P o (d.dsp W) d.al a wx) x.2) (tl : StepL P ops n m W F ds tab stos Sg (k + 1) t r) : StepL P ops n m W F ds tab stos Sg k (d :: t) (x :: r) :=
 ⟨fun _ wx hT _ hs => HaveC.map (fun h => ⟨o, e, .inl ⟨wanted_none g, h⟩⟩) (h wx hT hs), tl⟩
/-- A slot from outside is moved; a constant; a slot of the region. -/
theorem sm_ {k q s : Nat} {u : Value} {t : List D} {r : List (Nat × List Nat)} {d : Option Nat} {ty : Nat} {ps : String} {af : Array Edge} (e : ops[k]? = some ⟨d, .move (.tmp s), ty, ps, af, none⟩) (hc : (tab.map (·.1)).contains s = false) (ev : F.eval (.tmp s) = u) (tl : StepL P ops n m W F ds tab stos Sg (k + 1) t r) : StepL P ops n m W F ds tab stos Sg k (.c u :: t) ((q, []) :: r) :=
 ⟨fun _ _ _ _ hs => ⟨_, e, .inl ⟨wanted_none rfl, op_mv (s := SC u) rfl ((hs s hc).trans ev)⟩⟩, tl⟩
theorem sj_ {k q : Nat} {u : Value} {t : List D} {r : List (Nat × List Nat)} {d : Option Nat} {ty : Nat} {ps : String} {af : Array Edge} (e : ops[k]? = some ⟨d, .move (.const u), ty, ps, af, none⟩) (tl : StepL P ops n m W F ds tab stos Sg (k + 1) t r) : StepL P ops n m W F ds tab stos Sg k (.c u :: t) ((q, []) :: r) :=
 ⟨fun _ _ _ _ _ => ⟨_, e, .inl ⟨wanted_none rfl, op_mv (s := SC u) rfl rfl⟩⟩, tl⟩
/-- A vector, a rational from a box. -/
theorem sV_ {k q g off T s : Nat} {l : List Value} {a0 a1 a2 a3 a4 a5 a6 a7 : Value} {t : List D} {r : List (Nat × List Nat)} {d : Option Nat} {ty : Nat} {ps : String} {af : Array Edge} (e : ops[k]? = some ⟨d, .load 35 (.tmp s), ty, ps, af, none⟩) (hc : (tab.map (·.1)).contains s = false) (ev : F.eval (.tmp s) = .pointer (some ⟨g, off, none⟩)) (hx : Bx W g T l) (hn : g ∉ Sg) (hl : (l.drop off).take 8 = [a0, a1, a2, a3, a4, a5, a6, a7]) (tl : StepL Tryz.prog ops n m W F ds tab stos Sg (k + 1) t r) : StepL Tryz.prog ops n m W F ds tab stos Sg k (.c (.agg #[a0, a1, a2, a3, a4, a5, a6, a7]) :: t) ((q, []) :: r) := by
 have hg : ∀ i x, ([a0, a1, a2, a3, a4, a5, a6, a7] : List Value)[i]? = some x → l[off + i]? = some x := fun i x h => by
  rw [← hl] at h
  have hi : i < 8 := by have := (List.getElem?_eq_some_iff.1 h).1; rw [hl] at this; exact this
  rw [List.getElem?_take_of_lt hi, List.getElem?_drop] at h
  exact h
 exact ⟨fun _ _ hT _ hs => ⟨_, e, .inl ⟨wanted_none rfl, ld_Vec rfl ((hs s hc).trans ev) (hx.tn hT hn) (hg 0 _ rfl) (hg 1 _ rfl) (hg 2 _ rfl) (hg 3 _ rfl) (hg 4 _ rfl) (hg 5 _ rfl) (hg 6 _ rfl) (hg 7 _ rfl)⟩⟩, tl⟩
theorem StepL.nth : ∀ {k : Nat} {dl : List D} {tl : List (Nat × List Nat)}, StepL P ops n m W F ds tab stos Sg k dl tl → ∀ (i : Nat) (d : D) (x : Nat × List Nat), dl[i]? = some d → tl[i]? = some x → StepD P ops n m W F ds tab stos Sg (k + i) d x.2
 | _, [], _, _, i, d, x, hd, _ => by simp at hd
 | _, _ :: _, [], h, _, _, _, _, _ => h.elim
 | k, e :: t, y :: r, h, 0, d, x, hd, hx => by
  simp at hd hx
  subst hd; subst hx
  exact h.1
 | k, e :: t, y :: r, h, i + 1, d, x, hd, hx => by
  have := StepL.nth h.2 i d x (by simpa using hd) (by simpa using hx)
  rw [show k + 1 + i = k + (i + 1) by omega] at this
  exact this
theorem nth_map (f : D → Sp) : ∀ (l : List D) (k : Nat) (d : D), l[k]? = some d → nthS (l.map f) k = f d
 | [], _, _, h => by simp at h
 | _ :: _, 0, _, h => by simp at h; subst h; rfl
 | _ :: t, k + 1, d, h => nth_map f t k d (by simpa using h)
theorem StepL.step (h : StepL P ops n m W F ds tab stos Sg 0 ds tab) (hl : ds.length = n) (ht : tab.length = n) : ∀ (k : Nat), k < n → ∀ a wx, Tn Sg W wx → (∀ r s, stos[r]? = some s → s.al = none → reachB ops k ops.size (n + r) = true → n + r < m → Bx wx s.g s.T s.old) → Have (ds.map (D.sp W)) (tab.map (·.1)) wx a (tab.getD k (0, [])).2 → (∀ s, (tab.map (·.1)).contains s = false → a.eval (.tmp s) = F.eval (.tmp s)) →
   ∃ o, ops[k]? = some o ∧ DoesG P ops o (nthS (ds.map (D.dsp W)) k) ((ds.map D.al).getD k false) a wx := by
 intro k hk a wx hT hb hp hs
 have h1 : ds[k]? = some ds[k] := List.getElem?_eq_getElem (by omega)
 have h2 : tab[k]? = some tab[k] := List.getElem?_eq_getElem (by omega)
 have h3 := h.nth k _ _ h1 h2 a wx hT (by rw [Nat.zero_add]; exact hb) hs
 rw [Nat.zero_add] at h3
 have h4 : tab.getD k (0, []) = tab[k] := by rw [List.getD_eq_getElem?_getD, h2]; rfl
 rw [h4] at hp
 have h5 := h3.of hp
 rw [nth_map _ _ _ _ h1]
 have h6 : (ds.map D.al).getD k false = ds[k].al := by rw [List.getD_eq_getElem?_getD, List.getElem?_map, h1]; rfl
 rw [h6]
 exact h5
/-- An operation without a guard. -/
theorem nG {k : Nat} {o : Oper} {S : Sp} {al : Bool} {a : Act} {wx : World} (e : ops[k]? = some o) (g : o.guard = none) (h : Does P o S al a wx) : ∃ o, ops[k]? = some o ∧ DoesG P ops o S al a wx := ⟨o, e, .inl ⟨wanted_none g, h⟩⟩
/-- A guarded one that is wanted, one that is not, one of which it is not known. -/
theorem gT {k j dd : Nat} {o : Oper} {S : Sp} {al b want : Bool} {a : Act} {wx : World} (e : ops[k]? = some o) (g : o.guard = some (j, want)) (hd : (ops[j]?).bind (·.dst) = some dd) (he : a.eval (.tmp dd) = .bool b) (hb : (b == want) = true) (h : Does P o S al a wx) : ∃ o, ops[k]? = some o ∧ DoesG P ops o S al a wx :=
 ⟨o, e, .inl ⟨(wanted_of g hd he).trans hb, h⟩⟩
theorem gF {k j dd : Nat} {o : Oper} {b want : Bool} {a : Act} {wx : World} (e : ops[k]? = some o) (g : o.guard = some (j, want)) (hd : (ops[j]?).bind (·.dst) = some dd) (he : a.eval (.tmp dd) = .bool b) (hb : (b == want) = false) : ∃ o, ops[k]? = some o ∧ DoesG P ops o (SC undef) false a wx :=
 ⟨o, e, .inr ⟨(wanted_of g hd he).trans hb, rfl, rfl⟩⟩
theorem gC {k j dd : Nat} {o : Oper} {S : Sp} {b want : Bool} {a : Act} {wx : World} (e : ops[k]? = some o) (g : o.guard = some (j, want)) (hd : (ops[j]?).bind (·.dst) = some dd) (he : a.eval (.tmp dd) = .bool b) (h : (b == want) = true → Does P o S false a wx) : ∃ o, ops[k]? = some o ∧ DoesG P ops o (SG (b == want) S) false a wx :=
 ⟨o, e, doesG_if (wanted_of g hd he) h⟩
end
section
variable {P : Program} {o : Oper} {a : Act} {wx : World} {x y : Operand} {z m : Int}
end
/-- The cells of a struct's value. -/
def D.cl : D → World → List Value → Prop
 | .v x, w, cs => ∃ a0 a1 a2 a3 a4 a5 a6 a7, cs = [a0, a1, a2, a3, a4, a5, a6, a7] ∧ VecV w a0 a1 a2 a3 a4 a5 a6 a7 x
 | .r x, w, cs => ∃ a0 a1 a2 a3, cs = [a0, a1, a2, a3] ∧ RatV w a0 a1 a2 a3 x
 | .i x, w, cs => ∃ a0 a1, cs = [a0, a1] ∧ IntV w a0 a1 x
 | .c (.agg arr), _, cs => cs = arr.toList
 | _, _, _ => False
/-- The cells that are known, and how many there are. -/
def D.kn : D → List Value
 | .c (.agg arr) => arr.toList
 | _ => []
def D.sz : D → Nat
 | .v _ => 8
 | .r _ => 4
 | .i _ => 2
 | .c (.agg arr) => arr.toList.length
 | _ => 0
def D.str : D → Bool
 | .v _ => true
 | .r _ => true
 | .i _ => true
 | .c (.agg _) => true
 | _ => false
theorem D.opn {W wx : World} {v : Value} : ∀ {d : D}, d.str = true → (∀ u ∈ d.kn, u.oneCell' = true) → d.sp W wx v → ∃ cs, v = .agg cs.toArray ∧ d.cl wx cs ∧ cs.length = d.sz ∧ ∀ u ∈ cs, u.oneCell' = true
 | .v x, _, _, h => by
  obtain ⟨a0, a1, a2, a3, a4, a5, a6, a7, rfl, h⟩ := h
  refine ⟨[a0, a1, a2, a3, a4, a5, a6, a7], rfl, ⟨a0, a1, a2, a3, a4, a5, a6, a7, rfl, h⟩, rfl, fun u hu => ?_⟩
  simp only [List.mem_cons, List.not_mem_nil, or_false] at hu
  rcases hu with rfl | rfl | rfl | rfl | rfl | rfl | rfl | rfl
  ·exact h.one0
  ·exact h.one1
  ·exact h.one2
  ·exact h.one3
  ·exact h.one4
  ·exact h.one5
  ·exact h.one6
  ·exact h.one7
 | .r x, _, _, h => by
  obtain ⟨a0, a1, a2, a3, rfl, h⟩ := h
  refine ⟨[a0, a1, a2, a3], rfl, ⟨a0, a1, a2, a3, rfl, h⟩, rfl, fun u hu => ?_⟩
  simp only [List.mem_cons, List.not_mem_nil, or_false] at hu
  rcases hu with rfl | rfl | rfl | rfl
  ·exact h.one0
  ·exact h.one1
  ·exact h.one2
  ·exact h.one3
 | .i x, _, _, h => by
  obtain ⟨a0, a1, rfl, h⟩ := h
  refine ⟨[a0, a1], rfl, ⟨a0, a1, rfl, h⟩, rfl, fun u hu => ?_⟩
  simp only [List.mem_cons, List.not_mem_nil, or_false] at hu
  rcases hu with rfl | rfl
  ·exact h.one0
  ·exact h.one1
 | .c (.agg arr), _, k, h => ⟨arr.toList, by rw [Array.toArray_toList]; exact h, rfl, rfl, k⟩
theorem D.clk {w w' : World} {cs : List Value} (k : Kp w w') : ∀ {d : D}, d.cl w cs → d.cl w' cs
 | .v _, ⟨a0, a1, a2, a3, a4, a5, a6, a7, e, h⟩ => ⟨a0, a1, a2, a3, a4, a5, a6, a7, e, h.kp k⟩
 | .r _, ⟨a0, a1, a2, a3, e, h⟩ => ⟨a0, a1, a2, a3, e, h.kp k⟩
 | .i _, ⟨a0, a1, e, h⟩ => ⟨a0, a1, e, h.kp k⟩
 | .c (.agg _), h => h
/-- A struct's type and how many cells it has. -/
def stoTy (Ty n : Nat) : Bool := (Ty == 35 && n == 8) || (Ty == 33 && n == 4) || (Ty == 31 && n == 2)
theorem len2 {l : List Value} (h : l.length = 2) : ∃ a b, l = [a, b] := by
 match l, h with
 | [a, b], _ => exact ⟨a, b, rfl⟩
theorem len4 {l : List Value} (h : l.length = 4) : ∃ a b c d, l = [a, b, c, d] := by
 match l, h with
 | [a, b, c, d], _ => exact ⟨a, b, c, d, rfl⟩
theorem len8 {l : List Value} (h : l.length = 8) : ∃ a b c d e f g i, l = [a, b, c, d, e, f, g, i] := by
 match l, h with
 | [a, b, c, d, e, f, g, i], _ => exact ⟨a, b, c, d, e, f, g, i, rfl⟩
theorem sto_any {o : Oper} {a : Act} {wx : World} {g Ty n Tb : Nat} {p x : Operand} {l cs : List Value} (hy : stoTy Ty n = true) (ho : o.op = .store Ty p x) (hp : a.eval p = .pointer (some ⟨g, 0, none⟩)) (hv : a.eval x = .agg cs.toArray) (hx : Bx wx g Tb l) (hl : l.length = n) (hc : cs.length = n) (h1 : ∀ u ∈ cs, u.oneCell' = true) :
  ∃ w', (execOp a.eval o).run Tryz.prog wx = .ok .skip w' ∧ Bx w' g Tb cs ∧ Only g wx w' := by
 unfold stoTy at hy
 simp only [Bool.or_eq_true, Bool.and_eq_true, beq_iff_eq] at hy
 rcases hy with (⟨rfl, rfl⟩ | ⟨rfl, rfl⟩) | ⟨rfl, rfl⟩
 ·obtain ⟨a0, a1, a2, a3, a4, a5, a6, a7, rfl⟩ := len8 hl
  obtain ⟨b0, b1, b2, b3, b4, b5, b6, b7, rfl⟩ := len8 hc
  exact sto_Vec ho hp hv hx rfl rfl rfl rfl rfl rfl rfl rfl (h1 _ (by simp)) (h1 _ (by simp)) (h1 _ (by simp)) (h1 _ (by simp)) (h1 _ (by simp)) (h1 _ (by simp)) (h1 _ (by simp)) (h1 _ (by simp))
 ·obtain ⟨a0, a1, a2, a3, rfl⟩ := len4 hl
  obtain ⟨b0, b1, b2, b3, rfl⟩ := len4 hc
  exact sto_Rat ho hp hv hx rfl rfl rfl rfl (h1 _ (by simp)) (h1 _ (by simp)) (h1 _ (by simp)) (h1 _ (by simp))
 ·obtain ⟨a0, a1, rfl⟩ := len2 hl
  obtain ⟨b0, b1, rfl⟩ := len2 hc
  exact sto_Int ho hp hv hx rfl rfl (h1 _ (by simp)) (h1 _ (by simp))
theorem kn_v {x : Rat × Rat} : ∀ u ∈ (D.v x).kn, u.oneCell' = true := fun u h => by cases h
theorem kn_r {x : Rat} : ∀ u ∈ (D.r x).kn, u.oneCell' = true := fun u h => by cases h
theorem kn8 {a0 a1 a2 a3 a4 a5 a6 a7 : Value} (h0 : a0.oneCell' = true) (h1 : a1.oneCell' = true) (h2 : a2.oneCell' = true) (h3 : a3.oneCell' = true) (h4 : a4.oneCell' = true) (h5 : a5.oneCell' = true) (h6 : a6.oneCell' = true) (h7 : a7.oneCell' = true) : ∀ u ∈ (D.c (.agg #[a0, a1, a2, a3, a4, a5, a6, a7])).kn, u.oneCell' = true := by
 intro u hu
 simp only [D.kn, List.mem_cons, List.not_mem_nil, or_false] at hu
 rcases hu with rfl | rfl | rfl | rfl | rfl | rfl | rfl | rfl
 ·exact h0
 ·exact h1
 ·exact h2
 ·exact h3
 ·exact h4
 ·exact h5
 ·exact h6
 ·exact h7
theorem have_at {ds : List D} {W wx : World} {ts : List Nat} {a : Act} {j d : Nat} {dv : D} (h : nthS (ds.map (D.sp W)) j wx (a.eval (.tmp (ts.getD j 0)))) (hd : ds[j]? = some dv) (ht : ts.getD j 0 = d) : dv.sp W wx (a.eval (.tmp d)) := by
 rw [nth_map _ _ _ _ hd, ht] at h
 exact h
theorem hmixD : Tryz.prog.follows .mixedOrders = true := by kernel_rfl
theorem wp_flD {id : Nat} {ops : Array Oper} {Q : Exit → Act → World → Prop} {F : Act} {w W : World} (dr : Bool) (hW : (if dr = true then w.drew else w) = W) (n m : Nat) (kb : Bool) (rest : List Oper) (tab : List (Nat × List Nat)) (ds : List D) (stos : List Sto) (stab : List (List Nat)) (Sg : List Nat) {N : Nat} (hrest : ops.toList.drop m = rest) (hN : F.tmps.size = N) (hchk : chkD ops n m tab N dr kb ds.length stos.length stab = true) (hds : DOk kb ds) (hok : StoOK n m W (ds.map D.al) (ds.map (D.dsp W)) stos stab Sg)
  (steps : StepL Tryz.prog ops n m W F ds tab stos Sg 0 ds tab)
  (stepS : ∀ (r : Nat) (s : Sto), stos[r]? = some s → n + r < m → ∀ a wx g, Tn Sg W wx → Have (ds.map (D.sp W)) (tab.map (·.1)) wx a (stab.getD r []) → (∀ s, (tab.map (·.1)).contains s = false → a.eval (.tmp s) = F.eval (.tmp s)) → Bx wx g s.T s.old →
   (s.al = none → g = s.g) → (∀ x, s.al = some x → a.eval (.tmp ((tab.map (·.1)).getD x 0)) = .pointer (some ⟨g, 0, none⟩)) →
   ∃ o w' cs, ops[n + r]? = some o ∧ o.guard = none ∧ o.dst = none ∧ (execOp a.eval o).run Tryz.prog wx = .ok .skip w' ∧ Bx w' g s.T cs ∧ s.post w' cs ∧ Only g wx w')
  (fin : ∀ (val : Nat → Value) wx, Tn Sg W wx → (∀ k, k < n → nthS (ds.map (D.sp W)) k wx (val k)) → (∀ k, k < n → (ds.map D.al).getD k false = true → ∃ g, val k = .pointer (some ⟨g, 0, none⟩) ∧ W.heap.size ≤ g ∧ g < wx.heap.size) → (∀ j k, j < n → k < n → j ≠ k → (ds.map D.al).getD j false = true → (ds.map D.al).getD k false = true → val j ≠ val k) →
   (∀ r s, stos[r]? = some s → (n + r < m → ∃ cs, Bx wx (s.tgt val) s.T cs ∧ s.post wx cs) ∧ (m ≤ n + r → Bx wx (s.tgt val) s.T s.old)) →
   wpList Tryz.prog ops Q rest (puts F (valsT val tab 0)) wx) :
  (Code.region id ops dr).wp Tryz.prog Q F w := by
 unfold chkD at hchk
 simp only [Bool.and_eq_true] at hchk
 obtain ⟨⟨⟨⟨⟨⟨⟨⟨⟨h1, h2⟩, h3⟩, h4⟩, h5⟩, h6⟩, h7⟩, h8⟩, h9⟩, h10⟩ := hchk
 have hl := of_decide_eq_true h8
 have ht : tab.length = n := by
  have h := h6
  unfold tabB at h
  simp only [Bool.and_eq_true, decide_eq_true_eq, List.all_eq_true] at h
  have := h.1.1.2
  have h2 := congrArg List.length this
  rw [List.length_map] at h2
  rw [← h2]
  unfold dstOf
  simp
  have := of_decide_eq_true h3
  have := of_decide_eq_true h4
  omega
 refine wp_flowS dr hW n m tab (ds.map (D.sp W)) (ds.map (D.dsp W)) (ds.map D.al) stos stab Sg hmixD h1 h2 (of_decide_eq_true h3) (of_decide_eq_true h4) h5 h6 ?_ ?_ (DOk.both hds h9) (D.impL ds) hok (steps.step hl ht) stepS (fun val wx h1 h2 h3 h4 h5 => by rw [valsT_eq, hrest]; exact fin val wx h1 h2 h3 h4 h5)
 ·unfold stoB
  rw [Bool.and_eq_true]
  exact h10
 ·intro d hd
  obtain ⟨x, hx, rfl⟩ := List.mem_map.1 hd
  rw [hN]
  exact of_decide_eq_true (List.all_eq_true.1 h7 x hx)
theorem wp_fl0 {id : Nat} {ops : Array Oper} {Q : Exit → Act → World → Prop} {F : Act} {w W : World} (dr : Bool) (hW : (if dr = true then w.drew else w) = W) (n : Nat) (kb : Bool) (rest : List Oper) (tab : List (Nat × List Nat)) (ds : List D) {m N : Nat} (hm : m = n) (hrest : ops.toList.drop m = rest) (hN : F.tmps.size = N) (hchk : chkD ops n m tab N dr kb ds.length 0 [] = true) (hds : DOk kb ds)
  (steps : StepL Tryz.prog ops n m W F ds tab [] [] 0 ds tab)
  (fin : ∀ (val : Nat → Value) wx, Tn [] W wx → (∀ k, k < n → nthS (ds.map (D.sp W)) k wx (val k)) →
   wpList Tryz.prog ops Q rest (puts F (valsT val tab 0)) wx) :
  (Code.region id ops dr).wp Tryz.prog Q F w := by
 subst hm
 exact wp_flD dr hW m m kb rest tab ds [] [] [] hrest hN hchk hds stoOK0 steps (fun r s hr => by simp at hr) (fun val wx hT hsp _ _ _ => fin val wx hT hsp)
theorem wp_flA {id : Nat} {ops : Array Oper} {Q : Exit → Act → World → Prop} {F : Act} {w W : World} (dr : Bool) (hW : (if dr = true then w.drew else w) = W) (n : Nat) (kb : Bool) (rest : List Oper) (tab : List (Nat × List Nat)) (ds : List D) (xi yi : Nat) {m N T Ty dx dy : Nat} {Z : List Value} {dv : D} {so : Oper} (hm : m = n + 1) (hrest : ops.toList.drop m = rest) (hN : F.tmps.size = N) (hchk : chkD ops n m tab N dr kb ds.length 1 [[xi, yi]] = true) (hds : DOk kb ds)
  (hso : ops[n]? = some so) (hsg : so.guard = none) (hsd : so.dst = none) (hop : so.op = .store Ty (.tmp dx) (.tmp dy)) (hxd : (tab.map (·.1)).getD xi 0 = dx) (hyd : (tab.map (·.1)).getD yi 0 = dy) (hx : ds[xi]? = some (.n T Z)) (hy : ds[yi]? = some dv) (hty : (stoTy Ty dv.sz && decide (Z.length = dv.sz) && dv.str && decide (T ≠ 3) && decide (xi < n)) = true) (hkn : ∀ u ∈ dv.kn, u.oneCell' = true)
  (steps : StepL Tryz.prog ops n m W F ds tab [⟨some xi, 0, T, Z, fun w cs => dv.cl w cs⟩] [] 0 ds tab)
  (fin : ∀ (val : Nat → Value) wx g cs, Tn [] W wx → (∀ k, k < n → nthS (ds.map (D.sp W)) k wx (val k)) → val xi = .pointer (some ⟨g, 0, none⟩) → W.heap.size ≤ g → g < wx.heap.size → Bx wx g T cs → dv.cl wx cs →
   wpList Tryz.prog ops Q rest (puts F (valsT val tab 0)) wx) :
  (Code.region id ops dr).wp Tryz.prog Q F w := by
 simp only [Bool.and_eq_true, decide_eq_true_eq] at hty
 obtain ⟨⟨⟨⟨hty, hZ⟩, hstr⟩, hT⟩, hxn⟩ := hty
 have hal : (ds.map D.al).getD xi false = true := by rw [List.getD_eq_getElem?_getD, List.getElem?_map, hx]; rfl
 subst hm
 refine wp_flD dr hW n (n + 1) kb rest tab ds [⟨some xi, 0, T, Z, fun w cs => dv.cl w cs⟩] [[xi, yi]] [] hrest hN hchk hds (stoOK1 (fun _ _ _ h k => D.clk k h) hT (fun h => by cases h) (fun x h => by cases h; exact ⟨hxn, hal, fun w v hv => by rw [nth_map _ _ _ _ hx] at hv; exact SB.bx w v hv⟩) (fun x h _ => by cases h; simp)) steps ?_ ?_
 ·intro r s hr hlt a wx g hT' hp hs hbx hg hga
  match r, hr with
  | 0, hr =>
   injection hr with hr
   subst hr
   obtain ⟨-, pq, -⟩ := hp
   obtain ⟨cs, e, hcl, hlen, hone⟩ := D.opn hstr hkn (have_at pq hy hyd)
   obtain ⟨w', h1, h2, h3⟩ := sto_any hty hop (by rw [← hxd]; exact hga xi rfl) e hbx hZ hlen hone
   exact ⟨so, w', cs, hso, hsg, hsd, h1, h2, D.clk (h3.kp hbx hT) hcl, h3⟩
  | r + 1, hr => simp at hr
 ·intro val wx hT' hsp hal' _ hst
  obtain ⟨g, e1, e2, e3⟩ := hal' xi hxn hal
  obtain ⟨cs, hb, hp⟩ := (hst 0 _ rfl).1 (by omega)
  have hb : Bx wx (blkOf (val xi)) T cs := hb
  rw [e1] at hb
  exact fin val wx g cs hT' hsp e1 e2 e3 hb hp
theorem wp_flO {id : Nat} {ops : Array Oper} {Q : Exit → Act → World → Prop} {F : Act} {w W : World} (dr : Bool) (hW : (if dr = true then w.drew else w) = W) (n : Nat) (kb : Bool) (rest : List Oper) (tab : List (Nat × List Nat)) (ds : List D) (g yi : Nat) {m N T Ty dx dy : Nat} {old : List Value} {dv : D} {so : Oper} (hm : m = n + 1) (hrest : ops.toList.drop m = rest) (hN : F.tmps.size = N) (hchk : chkD ops n m tab N dr kb ds.length 1 [[yi]] = true) (hds : DOk kb ds)
  (hso : ops[n]? = some so) (hsg : so.guard = none) (hsd : so.dst = none) (hop : so.op = .store Ty (.tmp dx) (.tmp dy)) (hxo : (tab.map (·.1)).contains dx = false) (hyd : (tab.map (·.1)).getD yi 0 = dy) (ev : F.eval (.tmp dx) = .pointer (some ⟨g, 0, none⟩)) (hx : Bx W g T old) (hy : ds[yi]? = some dv) (hty : (stoTy Ty dv.sz && decide (old.length = dv.sz) && dv.str && decide (T ≠ 3)) = true) (hkn : ∀ u ∈ dv.kn, u.oneCell' = true)
  (steps : StepL Tryz.prog ops n m W F ds tab [⟨none, g, T, old, fun w cs => dv.cl w cs⟩] [g] 0 ds tab)
  (fin : ∀ (val : Nat → Value) wx cs, Tn [g] W wx → (∀ k, k < n → nthS (ds.map (D.sp W)) k wx (val k)) → Bx wx g T cs → dv.cl wx cs →
   wpList Tryz.prog ops Q rest (puts F (valsT val tab 0)) wx) :
  (Code.region id ops dr).wp Tryz.prog Q F w := by
 simp only [Bool.and_eq_true, decide_eq_true_eq] at hty
 obtain ⟨⟨⟨hty, hZ⟩, hstr⟩, hT⟩ := hty
 subst hm
 refine wp_flD dr hW n (n + 1) kb rest tab ds [⟨none, g, T, old, fun w cs => dv.cl w cs⟩] [[yi]] [g] hrest hN hchk hds (stoOK1 (fun _ _ _ h k => D.clk k h) hT (fun _ => ⟨by simp, hx⟩) (fun x h => by cases h) (fun x h _ => by cases h)) steps ?_ ?_
 ·intro r s hr hlt a wx g' hT' hp hs hbx hg hga
  match r, hr with
  | 0, hr =>
   injection hr with hr
   subst hr
   obtain rfl : g' = g := hg rfl
   obtain ⟨pq, -⟩ := hp
   obtain ⟨cs, e, hcl, hlen, hone⟩ := D.opn hstr hkn (have_at pq hy hyd)
   obtain ⟨w', h1, h2, h3⟩ := sto_any hty hop ((hs dx hxo).trans ev) e hbx hZ hlen hone
   exact ⟨so, w', cs, hso, hsg, hsd, h1, h2, D.clk (h3.kp hbx hT) hcl, h3⟩
  | r + 1, hr => simp at hr
 ·intro val wx hT' hsp _ _ hst
  obtain ⟨cs, hb, hp⟩ := (hst 0 _ rfl).1 (by omega)
  exact fin val wx cs hT' hsp hb hp
theorem wp_flDI {Fx : Fence} {nf : Nat} {id : Nat} {ops : Array Oper} {Q : Exit → Act → World → Prop} {F : Act} {w W : World} (dr : Bool) (hW : (if dr = true then w.drew else w) = W) (n m : Nat) (kb : Bool) (rest : List Oper) (tab : List (Nat × List Nat)) (ds : List D) (stos : List Sto) (stab : List (List Nat)) (Sg : List Nat) (hFx : WideF Fx) (hnd : nodef ops = true) {N : Nat} (hrest : ops.toList.drop m = rest) (hN : F.tmps.size = N) (hchk : chkD ops n m tab N dr kb ds.length stos.length stab = true) (hds : DOk kb ds) (hok : StoOK n m W (ds.map D.al) (ds.map (D.dsp W)) stos stab Sg)
  (steps : StepL Tryz.prog ops n m W F ds tab stos Sg 0 ds tab)
  (stepS : ∀ (r : Nat) (s : Sto), stos[r]? = some s → n + r < m → ∀ a wx g, Tn Sg W wx → Have (ds.map (D.sp W)) (tab.map (·.1)) wx a (stab.getD r []) → (∀ s, (tab.map (·.1)).contains s = false → a.eval (.tmp s) = F.eval (.tmp s)) → Bx wx g s.T s.old →
   (s.al = none → g = s.g) → (∀ x, s.al = some x → a.eval (.tmp ((tab.map (·.1)).getD x 0)) = .pointer (some ⟨g, 0, none⟩)) →
   ∃ o w' cs, ops[n + r]? = some o ∧ o.guard = none ∧ o.dst = none ∧ (execOp a.eval o).run Tryz.prog wx = .ok .skip w' ∧ Bx w' g s.T cs ∧ s.post w' cs ∧ Only g wx w')
  (fin : ∀ (val : Nat → Value) wx, Tn Sg W wx → (∀ k, k < n → nthS (ds.map (D.sp W)) k wx (val k)) → (∀ k, k < n → (ds.map D.al).getD k false = true → ∃ g, val k = .pointer (some ⟨g, 0, none⟩) ∧ W.heap.size ≤ g ∧ g < wx.heap.size) → (∀ j k, j < n → k < n → j ≠ k → (ds.map D.al).getD j false = true → (ds.map D.al).getD k false = true → val j ≠ val k) →
   (∀ r s, stos[r]? = some s → (n + r < m → ∃ cs, Bx wx (s.tgt val) s.T cs ∧ s.post wx cs) ∧ (m ≤ n + r → Bx wx (s.tgt val) s.T s.old)) →
   wpListIn Fx nf Tryz.prog ops Q rest (puts F (valsT val tab 0)) wx) :
  (Code.region id ops dr).wpIn Fx nf Tryz.prog Q F w := by
 unfold chkD at hchk
 simp only [Bool.and_eq_true] at hchk
 obtain ⟨⟨⟨⟨⟨⟨⟨⟨⟨h1, h2⟩, h3⟩, h4⟩, h5⟩, h6⟩, h7⟩, h8⟩, h9⟩, h10⟩ := hchk
 have hl := of_decide_eq_true h8
 have ht : tab.length = n := by
  have h := h6
  unfold tabB at h
  simp only [Bool.and_eq_true, decide_eq_true_eq, List.all_eq_true] at h
  have := h.1.1.2
  have h2 := congrArg List.length this
  rw [List.length_map] at h2
  rw [← h2]
  unfold dstOf
  simp
  have := of_decide_eq_true h3
  have := of_decide_eq_true h4
  omega
 refine wp_flowSI dr hW n m tab (ds.map (D.sp W)) (ds.map (D.dsp W)) (ds.map D.al) stos stab Sg hmixD hFx hnd h1 h2 (of_decide_eq_true h3) (of_decide_eq_true h4) h5 h6 ?_ ?_ (DOk.both hds h9) (D.impL ds) hok (steps.step hl ht) stepS (fun val wx h1 h2 h3 h4 h5 => by rw [valsT_eq, hrest]; exact fin val wx h1 h2 h3 h4 h5)
 ·unfold stoB
  rw [Bool.and_eq_true]
  exact h10
 ·intro d hd
  obtain ⟨x, hx, rfl⟩ := List.mem_map.1 hd
  rw [hN]
  exact of_decide_eq_true (List.all_eq_true.1 h7 x hx)
theorem wp_fl0I {Fx : Fence} {nf : Nat} {id : Nat} {ops : Array Oper} {Q : Exit → Act → World → Prop} {F : Act} {w W : World} (dr : Bool) (hW : (if dr = true then w.drew else w) = W) (n : Nat) (kb : Bool) (rest : List Oper) (tab : List (Nat × List Nat)) (ds : List D) (hFx : WideF Fx) (hnd : nodef ops = true) {m N : Nat} (hm : m = n) (hrest : ops.toList.drop m = rest) (hN : F.tmps.size = N) (hchk : chkD ops n m tab N dr kb ds.length 0 [] = true) (hds : DOk kb ds)
  (steps : StepL Tryz.prog ops n m W F ds tab [] [] 0 ds tab)
  (fin : ∀ (val : Nat → Value) wx, Tn [] W wx → (∀ k, k < n → nthS (ds.map (D.sp W)) k wx (val k)) →
   wpListIn Fx nf Tryz.prog ops Q rest (puts F (valsT val tab 0)) wx) :
  (Code.region id ops dr).wpIn Fx nf Tryz.prog Q F w := by
 subst hm
 exact wp_flDI dr hW m m kb rest tab ds [] [] [] hFx hnd hrest hN hchk hds stoOK0 steps (fun r s hr => by simp at hr) (fun val wx hT hsp _ _ _ => fin val wx hT hsp)
theorem wp_flAI {Fx : Fence} {nf : Nat} {id : Nat} {ops : Array Oper} {Q : Exit → Act → World → Prop} {F : Act} {w W : World} (dr : Bool) (hW : (if dr = true then w.drew else w) = W) (n : Nat) (kb : Bool) (rest : List Oper) (tab : List (Nat × List Nat)) (ds : List D) (xi yi : Nat) (hFx : WideF Fx) (hnd : nodef ops = true) {m N T Ty dx dy : Nat} {Z : List Value} {dv : D} {so : Oper} (hm : m = n + 1) (hrest : ops.toList.drop m = rest) (hN : F.tmps.size = N) (hchk : chkD ops n m tab N dr kb ds.length 1 [[xi, yi]] = true) (hds : DOk kb ds)
  (hso : ops[n]? = some so) (hsg : so.guard = none) (hsd : so.dst = none) (hop : so.op = .store Ty (.tmp dx) (.tmp dy)) (hxd : (tab.map (·.1)).getD xi 0 = dx) (hyd : (tab.map (·.1)).getD yi 0 = dy) (hx : ds[xi]? = some (.n T Z)) (hy : ds[yi]? = some dv) (hty : (stoTy Ty dv.sz && decide (Z.length = dv.sz) && dv.str && decide (T ≠ 3) && decide (xi < n)) = true) (hkn : ∀ u ∈ dv.kn, u.oneCell' = true)
  (steps : StepL Tryz.prog ops n m W F ds tab [⟨some xi, 0, T, Z, fun w cs => dv.cl w cs⟩] [] 0 ds tab)
  (fin : ∀ (val : Nat → Value) wx g cs, Tn [] W wx → (∀ k, k < n → nthS (ds.map (D.sp W)) k wx (val k)) → val xi = .pointer (some ⟨g, 0, none⟩) → W.heap.size ≤ g → g < wx.heap.size → Bx wx g T cs → dv.cl wx cs →
   wpListIn Fx nf Tryz.prog ops Q rest (puts F (valsT val tab 0)) wx) :
  (Code.region id ops dr).wpIn Fx nf Tryz.prog Q F w := by
 simp only [Bool.and_eq_true, decide_eq_true_eq] at hty
 obtain ⟨⟨⟨⟨hty, hZ⟩, hstr⟩, hT⟩, hxn⟩ := hty
 have hal : (ds.map D.al).getD xi false = true := by rw [List.getD_eq_getElem?_getD, List.getElem?_map, hx]; rfl
 subst hm
 refine wp_flDI dr hW n (n + 1) kb rest tab ds [⟨some xi, 0, T, Z, fun w cs => dv.cl w cs⟩] [[xi, yi]] [] hFx hnd hrest hN hchk hds (stoOK1 (fun _ _ _ h k => D.clk k h) hT (fun h => by cases h) (fun x h => by cases h; exact ⟨hxn, hal, fun w v hv => by rw [nth_map _ _ _ _ hx] at hv; exact SB.bx w v hv⟩) (fun x h _ => by cases h; simp)) steps ?_ ?_
 ·intro r s hr hlt a wx g hT' hp hs hbx hg hga
  match r, hr with
  | 0, hr =>
   injection hr with hr
   subst hr
   obtain ⟨-, pq, -⟩ := hp
   obtain ⟨cs, e, hcl, hlen, hone⟩ := D.opn hstr hkn (have_at pq hy hyd)
   obtain ⟨w', h1, h2, h3⟩ := sto_any hty hop (by rw [← hxd]; exact hga xi rfl) e hbx hZ hlen hone
   exact ⟨so, w', cs, hso, hsg, hsd, h1, h2, D.clk (h3.kp hbx hT) hcl, h3⟩
  | r + 1, hr => simp at hr
 ·intro val wx hT' hsp hal' _ hst
  obtain ⟨g, e1, e2, e3⟩ := hal' xi hxn hal
  obtain ⟨cs, hb, hp⟩ := (hst 0 _ rfl).1 (by omega)
  have hb : Bx wx (blkOf (val xi)) T cs := hb
  rw [e1] at hb
  exact fin val wx g cs hT' hsp e1 e2 e3 hb hp
theorem wp_flOI {Fx : Fence} {nf : Nat} {id : Nat} {ops : Array Oper} {Q : Exit → Act → World → Prop} {F : Act} {w W : World} (dr : Bool) (hW : (if dr = true then w.drew else w) = W) (n : Nat) (kb : Bool) (rest : List Oper) (tab : List (Nat × List Nat)) (ds : List D) (g yi : Nat) (hFx : WideF Fx) (hnd : nodef ops = true) {m N T Ty dx dy : Nat} {old : List Value} {dv : D} {so : Oper} (hm : m = n + 1) (hrest : ops.toList.drop m = rest) (hN : F.tmps.size = N) (hchk : chkD ops n m tab N dr kb ds.length 1 [[yi]] = true) (hds : DOk kb ds)
  (hso : ops[n]? = some so) (hsg : so.guard = none) (hsd : so.dst = none) (hop : so.op = .store Ty (.tmp dx) (.tmp dy)) (hxo : (tab.map (·.1)).contains dx = false) (hyd : (tab.map (·.1)).getD yi 0 = dy) (ev : F.eval (.tmp dx) = .pointer (some ⟨g, 0, none⟩)) (hx : Bx W g T old) (hy : ds[yi]? = some dv) (hty : (stoTy Ty dv.sz && decide (old.length = dv.sz) && dv.str && decide (T ≠ 3)) = true) (hkn : ∀ u ∈ dv.kn, u.oneCell' = true)
  (steps : StepL Tryz.prog ops n m W F ds tab [⟨none, g, T, old, fun w cs => dv.cl w cs⟩] [g] 0 ds tab)
  (fin : ∀ (val : Nat → Value) wx cs, Tn [g] W wx → (∀ k, k < n → nthS (ds.map (D.sp W)) k wx (val k)) → Bx wx g T cs → dv.cl wx cs →
   wpListIn Fx nf Tryz.prog ops Q rest (puts F (valsT val tab 0)) wx) :
  (Code.region id ops dr).wpIn Fx nf Tryz.prog Q F w := by
 simp only [Bool.and_eq_true, decide_eq_true_eq] at hty
 obtain ⟨⟨⟨hty, hZ⟩, hstr⟩, hT⟩ := hty
 subst hm
 refine wp_flDI dr hW n (n + 1) kb rest tab ds [⟨none, g, T, old, fun w cs => dv.cl w cs⟩] [[yi]] [g] hFx hnd hrest hN hchk hds (stoOK1 (fun _ _ _ h k => D.clk k h) hT (fun _ => ⟨by simp, hx⟩) (fun x h => by cases h) (fun x h _ => by cases h)) steps ?_ ?_
 ·intro r s hr hlt a wx g' hT' hp hs hbx hg hga
  match r, hr with
  | 0, hr =>
   injection hr with hr
   subst hr
   obtain rfl : g' = g := hg rfl
   obtain ⟨pq, -⟩ := hp
   obtain ⟨cs, e, hcl, hlen, hone⟩ := D.opn hstr hkn (have_at pq hy hyd)
   obtain ⟨w', h1, h2, h3⟩ := sto_any hty hop ((hs dx hxo).trans ev) e hbx hZ hlen hone
   exact ⟨so, w', cs, hso, hsg, hsd, h1, h2, D.clk (h3.kp hbx hT) hcl, h3⟩
  | r + 1, hr => simp at hr
 ·intro val wx hT' hsp _ _ hst
  obtain ⟨cs, hb, hp⟩ := (hst 0 _ rfl).1 (by omega)
  exact fin val wx cs hT' hsp hb hp
end Go.Proofs.YtcfejkpadcccbaaGreat
