/-
 PIECE: Decode, where something is thrown.
-/
import Derived.Test.YtlgnagnmoleeiaaGreatEwT
namespace Go.Proofs.YtlgnagnmoleeiaaGreat.E
open Go.RowKit
set_option linter.unusedVariables false
set_option linter.unusedSimpArgs false
def weakH : HO → HO
 | .bx T l => .bx T (List.replicate l.length .un)
 | _ => .dead
def isBx : HO → Bool
 | .bx _ _ => true
 | _ => false
def cutM (n : Nat) (m : Nat → Option Value) (b : Nat) : Option Value := if b < n then m b else none
def lpO (n : Nat) : V → V
 | .lp b o => match Nat.blt b n with
   | true => .lp b o
   | false => .un
 | _ => .un
/-- A closure that recovers, and turns boxes. -/
def Resc (P : Program) (g : FuncId) (v : Value) (hs hs' : List HO) : Prop := okF P g ∧ ∀ (B M : Nat → Prop) (m : Nat → Option Value) (w : World), Ok B M (fun b => hs.getD b .dead) m w → (∀ b, m b ≠ none → b < hs.length) → CallsD P g ((List.range hs.length).map fun b => (m b).getD undef).toArray (.panicking (chn v)) w fun e u' w' => (∃ r, e = .returned r) ∧ settle u' = .returning ∧
  ∃ m', Ok B M (fun b => hs'.getD b .dead) m' w' ∧ (∀ b x, m b = some x → m' b = some x) ∧ (∀ b, m' b ≠ none → b < hs'.length) ∧ Mo w (Av M (fun b => hs.getD b .dead) m) m w' (Av M (fun b => hs'.getD b .dead) m') m' ∧ Bl B w w'
section
variable {P : Program} {f g : FuncId} {fn : Func} {v : Value} {B M : Nat → Prop} {h : Nat → HO} {m : Nat → Option Value} {w w0 : World} {hs hs' : List HO} {N : Nat} {σ2 : St}
theorem cut_in {b : Nat} (hb : b < N) : cutM N m b = m b := if_pos hb
theorem cut_some {b : Nat} {x : Value} (e : cutM N m b = some x) : b < N ∧ m b = some x := by
 unfold cutM at e
 split at e
 · rename_i h; exact ⟨h, e⟩
 · cases e
theorem Ok.weakN (K : Ok B M h m w) (h1 : ∀ b, b < N → ∃ T l, h b = .bx T l ∧ hs.getD b .dead = .bx T (List.replicate l.length .un)) (h2 : ∀ b, N ≤ b → hs.getD b .dead = .dead) : Ok B M (fun b => hs.getD b .dead) (cutM N m) w ∧ ∀ g, Av M (fun b => hs.getD b .dead) (cutM N m) g → Av M h m g := by
 have hin : ∀ {b}, (hs.getD b .dead).own = true → b < N ∧ (h b).own = true := fun {b} hb => by
  rcases Nat.lt_or_ge b N with g | g
  · obtain ⟨T, l, e1, e2⟩ := h1 b g
    exact ⟨g, by rw [e1]; rfl⟩
  · rw [h2 b g] at hb; cases hb
 have hav : ∀ g, Av M (fun b => hs.getD b .dead) (cutM N m) g → Av M h m g := by
  rintro g (e | ⟨c, u, k1, k2, k3⟩)
  · exact .inl e
  · obtain ⟨hc, ho⟩ := hin k1
    exact .inr ⟨c, u, ho, (cut_some k2).2, k3⟩
 refine ⟨⟨fun b T l e => ?_, fun b T z l e => ?_, fun b x e => ?_, fun c c' u u' g k1 k2 k3 k4 k5 k6 => ?_, K.mb, K.bs, K.gl.mo (m := no) (m' := no) ⟨Nat.le_refl _, fun _ _ _ => rfl, fun g e => .inl (hav g e), fun _ _ e => e⟩⟩, hav⟩
 · obtain ⟨hb, _⟩ := hin (b := b) (by rw [e]; rfl)
   obtain ⟨T', l', e1, e2⟩ := h1 b hb
   rw [e2] at e
   injection e with e3 e4
   subst e3; subst e4
   obtain ⟨gg, cs, q1, q2, q3, q4, q5⟩ := K.bx b _ _ e1
   refine ⟨gg, cs, (cut_in hb).trans q1, q2, q3, by rw [List.length_replicate, q4], fun j x hx => ?_⟩
   rw [List.getElem?_replicate] at hx
   split at hx
   · injection hx with hx; subst hx; exact .un _ _
   · cases hx
 · obtain ⟨hb, _⟩ := hin (b := b) (by rw [e]; rfl)
   obtain ⟨T', l', e1, e2⟩ := h1 b hb
   rw [e2] at e
   cases e
 · rcases Nat.lt_or_ge b N with g | g
   · obtain ⟨T', l', e1, e2⟩ := h1 b g
     rw [e2] at e; cases e
   · rw [h2 b g] at e; cases e
 · obtain ⟨_, o1⟩ := hin k1
   obtain ⟨_, o2⟩ := hin k2
   exact K.inj c c' u u' g o1 o2 (cut_some k3).2 (cut_some k4).2 k5 k6
/-- The closure, from a state of the function. -/
theorem resc_ok (hR : Resc P g v hs hs') (hl : hs.length = N) (hbx : hs.all isBx = true) (hw : (σ2.h.take N).map weakH = hs) {a : Act} {d : Deferred} {ds : List Deferred} (H : SOk B M w0 σ2 a m w) (hd : a.defers = d :: ds) (hm : isMark d = false) :
  CallsD P g ((List.range N).map fun b => (m b).getD undef).toArray (.panicking (chn v)) w fun e u' w' => (∃ r, e = .returned r) ∧ settle u' = .returning ∧ ∃ m', SOk B M w0 ⟨σ2.t.map (lpO N), hs'⟩ { a with defers := ds } m' w' := by
 have hlen : N ≤ σ2.h.length := by
  have := congrArg List.length hw
  rw [List.length_map, List.length_take, hl] at this
  omega
 have h1 : ∀ b, b < N → ∃ T l, σ2.ho b = .bx T l ∧ hs.getD b .dead = .bx T (List.replicate l.length .un) := fun b hb => by
  have e1 : hs[b]? = some (weakH (σ2.ho b)) := by
   rw [← hw, List.getElem?_map, List.getElem?_take, if_pos hb, List.getElem?_eq_getElem (by omega)]
   unfold St.ho
   rw [List.getD_eq_getElem?_getD, List.getElem?_eq_getElem (by omega)]
   rfl
  have e2 : isBx (weakH (σ2.ho b)) = true := by
   rw [List.all_eq_true] at hbx
   exact hbx _ (List.mem_of_getElem? e1)
  rw [List.getD_eq_getElem?_getD, e1]
  cases hx : σ2.ho b with
  | bx T l => exact ⟨T, l, rfl, rfl⟩
  | _ => rw [hx] at e2; cases e2
 have h2 : ∀ b, N ≤ b → hs.getD b .dead = .dead := fun b hb => by rw [List.getD_eq_getElem?_getD, List.getElem?_eq_none (by omega)]; rfl
 obtain ⟨K', hav⟩ := Ok.weakN H.K h1 h2
 have hmo : Mo w (Av M σ2.ho m) no w (Av M (fun b => hs.getD b .dead) (cutM N m)) no := ⟨Nat.le_refl _, fun _ _ _ => rfl, fun g e => .inl (hav g e), fun _ _ e => e⟩
 have hc := hR.2 B M (cutM N m) w K' (fun b hb => by
  cases hx : cutM N m b with
  | none => exact absurd hx hb
  | some x => rw [hl]; exact (cut_some hx).1)
 have hcap : ((List.range hs.length).map fun b => (cutM N m b).getD undef) = (List.range N).map fun b => (m b).getD undef := by
  rw [hl]
  exact List.map_congr_left fun b hb => by rw [cut_in (List.mem_range.1 hb)]
 rw [hcap] at hc
 refine hc.mono fun e u' w' ⟨q1, q2, m', q3, q4, q5, q6, q7⟩ => ⟨q1, q2, m', ⟨q3, ?_, ?_, fun i x hx => ?_, q5, H.bl.trans q7⟩⟩
 · rw [List.length_map]; exact H.sz
 · have hdf : DfOk B ds w (Av M σ2.ho m) := by
    obtain ⟨Ds, k0, k1, k2⟩ := H.df
    refine ⟨Ds, ?_, k1, k2⟩
    rw [hd, List.filter_cons, hm] at k0
    exact k0
   exact (hdf.mo hmo).mo q6
 · have hx : (σ2.t.map (lpO N))[i]? = some x := hx
   rw [List.getElem?_map, Option.map_eq_some_iff] at hx
   obtain ⟨y, hy, rfl⟩ := hx
   have hr := H.tm i y hy
   show Rep _ _ _ (a.tmps.getD i undef) _
   generalize a.tmps.getD i undef = u at hr ⊢
   unfold lpO
   split
   · rename_i b o
     split
     · rename_i hb
       have hb : b < N := by simpa using hb
       cases hr with
       | lp _ _ _ gg hg => exact .lp _ b o gg (q4 b _ ((cut_in hb).trans hg))
     · exact .un _ _
   · exact .un _ _
/-- What is put off is done: marks, and the closure. -/
theorem defs_thr (hR : Resc P g v hs hs') (hl : hs.length = N) (hbx : hs.all isBx = true) (hw : (σ2.h.take N).map weakH = hs) {cs : List Frame} {cap : Array Value} (hcap : cap = ((List.range N).map fun b => (m b).getD undef).toArray) : ∀ (n : Nat) (a : Act) (w : World) (fr : Frame), a.defers.length = n → unmk a.defers = [{ target := .fn (.func g) cap, args := #[] }] → SOk B M w0 σ2 a m w → fr.mode = .panicking (chn v) → fr.defers = a.defers → fr.tmps = a.tmps →
  ∃ w' fr' m', Steps P (lone fr cs w) (lone fr' cs w') ∧ SOk B M w0 ⟨σ2.t.map (lpO N), hs'⟩ { a with defers := [] } m' w' ∧ fr'.mode = .returning ∧ fr'.defers = [] ∧ fr'.tmps = a.tmps ∧ fr'.kind = fr.kind ∧ fr'.fn = fr.fn
 | 0, a, w, fr, hl, hrs, H, h1, h2, h3 => by
  have h0 : a.defers = [] := List.length_eq_zero_iff.1 hl
  rw [h0] at hrs
  cases hrs
 | n + 1, a, w, fr, hln, hrs, H, h1, h2, h3 => by
  match hd : a.defers with
  | [] => rw [hd] at hln; cases hln
  | d :: ds =>
    cases hm : isMark d with
    | true =>
      obtain ⟨D, w', q1, q2, q3⟩ := H.dropM (P := P) hd hm
      have hr2 : unmk ds = [{ target := .fn (.func g) cap, args := #[] }] := by
       rw [← hrs, hd]
       unfold unmk
       rw [List.filter_cons, hm]
       rfl
      obtain ⟨w2, fr2, m', k1, k2, k3, k4, k5, k6, k7⟩ := defs_thr hR hl hbx hw (cs := cs) hcap n { a with defers := ds } w' { fr with defers := ds } (by rw [hd] at hln; simpa using hln) hr2 q3 h1 rfl h3
      refine ⟨w2, fr2, m', .trans (.one (step_collected (by rw [h1]; intro e; cases e) (h2.trans hd) q1 q2)) ?_, k2, k3, k4, k5, k6, k7⟩
      simpa using k1
    | false =>
      have hr2 : d = { target := .fn (.func g) cap, args := #[] } ∧ unmk ds = [] := by
       rw [hd] at hrs
       unfold unmk at hrs
       rw [List.filter_cons, hm] at hrs
       simp only [Bool.not_false, if_true, List.cons.injEq] at hrs
       exact hrs
      have hc := resc_ok hR hl hbx hw H hd hm
      rw [← hcap] at hc
      obtain ⟨rfl, hr3⟩ := hr2
      have hs1 := step_defer (P := P) (cs := cs) (w := w) (f := g) (args := cap) (by rw [h1]; intro e; cases e) (h2.trans hd) rfl (by
        have := hR.1 cap w
        simp [invoke, this])
      obtain ⟨e, u', w', frX, ⟨⟨r, rfl⟩, hset, m', H2⟩, hst, hkX, hgo⟩ := hc { fr with defers := ds } cs h1
      have hs2 := step_going_returned (c := { { fr with defers := ds } with mode := u' }) (cs := cs) hkX hgo
      obtain ⟨w2, fr2, k1, k2, k3, k4, k5, k6, k7⟩ := marks_off (P := P) (cs := cs) _ { a with defers := ds } w' { { { fr with defers := ds } with mode := u' } with mode := settle u' } rfl hr3 H2 hset rfl h3
      exact ⟨w2, fr2, m', .head hs1 (.trans hst (.head hs2 k1)), k2, k3, k4, k5, k6, k7⟩
end
/-- Of the run to the operation that throws: the boxes; the result. -/
def hsT (N : Nat) (r : Option (St × Ks)) : Option (List HO) := match r with
 | some x => some ((x.1.h.take N).map weakH)
 | none => none
noncomputable def outT (P : Program) (fn : Func) (N : Nat) (hs' : List HO) (vr : V) (r : Option (St × Ks)) : Option RD := match r with
 | some x => outV P fn ⟨x.1.t.map (lpO N), hs'⟩ (.v vr)
 | none => none
set_option maxRecDepth 100000 in
/-- **A function that has put off a closure which recovers, at a call that throws**. -/
theorem thD {v : Value} {f g : FuncId} {vr : V} {N : Nat} {hs hs' : List HO} {td : List Item} {σ : St} {n k0 : Nat} (sc : List (Fa PP)) {f0 : FuncId} {hs0 : List HO} {ds0 : List V} (ρ : List Nat) (hR : Resc PP g v hs hs') (hp : PureX (thrE v) PP f0 hs0 ds0 (thrD k0)) (h : okB PP f = true) (hl : Nat.beq hs.length (N + 1) = true) (hbx : hs.all isBx = true)
  (e : metT (thrR PP td n σ sc f0 hs0 ds0 k0 ρ) = toldT (thrR PP td n σ sc f0 hs0 ds0 k0 ρ)) (hw : hsT (N + 1) (thrR PP td n σ sc f0 hs0 ds0 k0 ρ) = some hs) (ho : outT PP (fnOf PP f) (N + 1) hs' vr (thrR PP td n σ sc f0 hs0 ds0 k0 ρ) = some (.v vr)) : Gd PP f (.df (N + 1) (dfr g (List.range (N + 1))) vr) td σ := by
 obtain ⟨σ2, ks, h1, h2⟩ := metT_ok e
 rw [h1] at hw ho
 have hw' : (σ2.h.take (N + 1)).map weakH = hs := by injection hw
 have ho' : outV PP (fnOf PP f) ⟨σ2.t.map (lpO (N + 1)), hs'⟩ (.v vr) = some (.v vr) := ho
 clear hw ho
 have hl := Nat.eq_of_beq_eq_true hl
 have hf := (fn_of h).1
 unfold thrR at h1
 split at h1
 case h_2 => cases h1
 rename_i td' σ' sc' ks' hr
 split at h1
 case h_2 => cases h1
 rename_i σ3 k2 hv
 simp only [Option.some.injEq, Prod.mk.injEq] at h1
 obtain ⟨rfl, rfl⟩ := h1
 refine run_ok mo_ _ _ _ _ _ _ _ _ hr (fun p hp => h2 p (List.mem_append.2 (.inl hp))) ?_
 intro w0 B M m0 b a m w cs hfn hkd hrs hM H
 obtain ⟨a', w', m', todo, q1, H', hI, hd⟩ := thr_ok hv (fun p hp => h2 p (List.mem_append.2 (.inr hp))) hp H (fun _ _ m => ∀ j, j < N + 1 → m j = m0 j ∧ m0 j ≠ none) (fun _ _ _ _ _ _ g1 g2 j hj => io_mo g1 g2 j hj) hM b cs
 have hrs' : unmk a'.defers = [{ target := .fn (.func g) ((List.range (N + 1)).map fun b => (m0 b).getD undef).toArray, args := #[] }] := by rw [hd]; exact hrs
 have hcap : ((List.range (N + 1)).map fun b => (m0 b).getD undef).toArray = ((List.range (N + 1)).map fun b => (m' b).getD undef).toArray := by
  congr 1
  exact List.map_congr_left fun b hb => by rw [(hI b (List.mem_range.1 hb)).1]
 obtain ⟨w2, fr, m2, k1, k2', k3, k4, k5, k6, k7⟩ := defs_thr (P := PP) hR hl hbx hw' (cs := cs) hcap _ a' w' { b.at a' todo with mode := .panicking (chn v) } rfl hrs' H' rfl rfl rfl
 obtain ⟨u, h4, h6⟩ := res_out (d := .v vr) (m0 := m0) (fun j hj => absurd hj (Nat.not_lt_zero _)) ho' k2'
 refine ⟨.returned u, w2, fr, ⟨u, rfl, h6, k2'.bl⟩, Steps.trans q1 k1, k7.trans hfn, k3, k4, k6.trans hkd, fnOf PP f, ?_, by rw [k5]; exact h4⟩
 rw [k7]
 show PP.funcs[b.fn]? = _
 rw [hfn]
 exact hf
end Go.Proofs.YtlgnagnmoleeiaaGreat.E
namespace Go.Proofs.YtlgnagnmoleeiaaGreat.E.Pc
set_option maxHeartbeats 1000000
open Go.RowKit
set_option linter.unusedVariables false
set_option linter.unusedSimpArgs false
/-- What is thrown. -/
def badV : Value := .iface 155 (.agg #[])
theorem must_no (x : Value) (w : World) : Calls PP 84 #[x, .bool false] w fun e w' => e = .panicked (chn badV) ∧ w' = w := by
 go_enter Tryz.func84, Tryz.ntmps84
 go_wp2
 exact ⟨rfl, rfl, rfl⟩
theorem must_thr {hs : List HO} {k : Nat} {x : V} : PureX (thrE badV) PP 84 hs [x, bo false] (thrD k) := by
 refine ⟨okF_of (by kernel_rfl), fun w B M m args K hm hn hargs => ?_⟩
 obtain ⟨y, z, rfl⟩ : ∃ y z, args = #[y, z] := by
  have := hargs.1
  match args, this with
  | ⟨[y, z]⟩, _ => exact ⟨y, z, rfl⟩
 have hz : z = .bool false := Rep.k_inv (hargs.2 1 (bo false) rfl)
 subst hz
 refine (must_no y w).mono fun e w' ⟨h1, h2⟩ => ?_
 subst h2
 refine ⟨undef, h1, ⟨fun _ => .dead, m, K.sub fun b => .inr rfl, fun j hj => rfl, fun j hj => ?_, .un _ _⟩, Bl.refl _ _⟩
 rw [List.getD_eq_getElem?_getD, List.getElem?_replicate]
 split <;> rfl
section
variable {B : List UInt8} {n k : Nat} {A : List Int} {r : Rat} {e : Int}
theorem ints_thr (hb : B.length ≤ 1000000) (h : W.decI (B.drop n) = (A, k, e)) (he : (e == 0) = false) (hn : n ≤ B.length) : PureX (thrE badV) PP 83 (rdO B n) [.lp 0 0] (thrD 1) := by
 have c := e_wgetints (B.drop n) (by rw [List.length_drop]; omega)
 rw [h] at c
 change Pure PP _ _ (.tu [zl A, ni (k : Int), ni e]) at c
 have e1 : bo (e == 0) = bo false := by rw [he]
 exact trX (n := 3) [nL 8 0, nL 12 0, slD B n hn, cl c, .eqv 22 _ _ e1] [0] (by kernel_rfl) (must_thr (hs := rdO B n) (k := 1) (x := .lp 0 0)) (by kernel_rfl)
theorem rat_thr (hb : B.length ≤ 1000000) (h : decQ (B.drop n) = (r, k, e)) (he : (e == 0) = false) (hn : n ≤ B.length) : PureX (thrE badV) PP 85 (rdO B n) [.lp 0 0] (thrD 1) := by
 have c := e_rdec (B.drop n) (by rw [List.length_drop]; omega)
 rw [h] at c
 change Pure PP _ _ (.tu [.ag (dR r), ni (k : Int), ni e]) at c
 have e1 : bo (e == 0) = bo false := by rw [he]
 exact trX (n := 3) [nL 8 0, nL 12 0, slD B n hn, cl c, .eqv 22 _ _ e1] [0] (by kernel_rfl) (must_thr (hs := rdO B n) (k := 1) (x := .lp 0 0)) (by kernel_rfl)
end
end Go.Proofs.YtlgnagnmoleeiaaGreat.E.Pc
namespace Go.Proofs.YtlgnagnmoleeiaaGreat.E
set_option maxHeartbeats 1000000
open Go.RowKit
set_option linter.unusedVariables false
set_option linter.unusedSimpArgs false
def regH {P : Program} (r : Option (St × List Fp × List (Fa P) × Ks)) : Option (List HO) := match r with
 | some x => match x.2.2.2 with
   | [] => some x.1.h
   | _ => none
 | none => none
/-- A region of a deferred closure, by the engine. -/
theorem wpS_eng {P : Program} {id : Nat} {ops : Array Oper} {σ : St} {hs' : List HO} {B M : Nat → Prop} {w0 w : World} {a : Act} {m : Nat → Option Value} {cs : List Frame} {Q : Exit → Act → List Frame → World → Prop} (hm : P.follows .mixedOrders = true) (hnd : nodef ops = true) (e : regH (regR P ops ops.toList [] σ []) = some hs') (H : SOk B M w0 σ a m w)
  (hQ : ∀ σ1 a' m' w', SOk B M w0 σ1 a' m' w' → σ1.h = hs' → Mo w (Av M σ.ho m) m w' (Av M σ1.ho m') m' → a'.defers = a.defers → Q .normal a' cs w') : (Code.region id ops false).wpS P Q a cs w := by
 cases hr : regR P ops ops.toList [] σ [] with
 | none => rw [hr] at e; cases e
 | some x =>
  obtain ⟨σ1, fps, sc1, ks⟩ := x
  rw [hr] at e
  cases ks with
  | cons y ys => cases e
  | nil =>
   have hh : σ1.h = hs' := by injection e
   refine wpS_of_wp ?_
   have key := region_ok (Fx := Fence.wide) (nf := 0) (id := id) hm WideF.wide hr (fun p hp => by cases hp) (dr := false) (by rw [hnd]; rfl) (fun w' A' m' => Mo w (Av M σ.ho m) m w' A' m') (fun _ _ _ _ _ _ g1 g2 => g1.trans g2) H Mo.refl rfl
   refine wp_mono (wpIn_wide.1 key) fun e a' w' ⟨h1, m', h2, h3, h4⟩ => ?_
   subst h1
   exact hQ σ1 a' m' w' h2 hh h3 h4
end Go.Proofs.YtlgnagnmoleeiaaGreat.E
namespace Go.Proofs.YtlgnagnmoleeiaaGreat.E.Pc
open Go.RowKit
def hsW : List HO := [.bx 30 (List.replicate 25 .un), .bx 3 (List.replicate 1 .un), .bx 35 (List.replicate 1 .un)]
def zr4 : List V := [bo false, .nl, bo false, .nl]
def z25n : List V := [ni 0, ni 0, .nl, .nl, .nl] ++ (zr4 ++ (zr4 ++ (zr4 ++ (zr4 ++ zr4))))
def hsZ : List HO := [.bx 30 z25n, .bx 3 [ni 0], .bx 35 [ni 2]]
theorem resc1 : Resc PP 82 badV hsW hsZ := by
 refine ⟨okF_of (by kernel_rfl), fun B M m w K hmn => ?_⟩
 obtain ⟨g0, cs0, p0, _⟩ := K.bx 0 _ _ rfl
 obtain ⟨g1, cs1, p1, _⟩ := K.bx 1 _ _ rfl
 obtain ⟨g2, cs2, p2, _⟩ := K.bx 2 _ _ rfl
 have hcap : ((List.range hsW.length).map fun b => (m b).getD undef).toArray = #[.pointer (some ⟨g0, 0, none⟩), .pointer (some ⟨g1, 0, none⟩), .pointer (some ⟨g2, 0, none⟩)] := by
  show ([(m 0).getD undef, (m 1).getD undef, (m 2).getD undef] : List Value).toArray = _
  rw [p0, p1, p2]
  rfl
 rw [hcap]
 refine callsD_of_wpS Tryz.func82 rfl fun c₀ cs hu => ?_
 apply wpS_seq
 apply wpS_region
 simp [wpOpsS, go_sem, recoverD, hu, chn, Tryz.ntmps82, Exit.thenS]
 apply wpS_seq
 apply wpS_region
 have hn : ∀ w, (binOp BinOp.neq 20 badV .nilIface).run PP w = .ok (.bool true) w := fun _ => by kernel_rfl
 have hg : ∀ w, (eqGuard BinOp.neq 20 (.tmp 5) (.const .nilIface) badV .nilIface).run PP w = .ok () w := fun _ => by kernel_rfl
 simp [wpOpsS, go_sem, Exit.thenS, hn, hg]
 refine wpS_cond (t := true) (by simp [Act.eval, Array.replicate]) ?_
 simp only [if_true]
 refine wpS_eng (σ := ⟨[.lp 0 0, .lp 1 0, .lp 2 0, .un, .un, .un, .un, .un], hsW⟩) (hs' := hsZ) (w0 := w) (B := B) (M := M) (m := m) mo_ (by kernel_rfl) (by kernel_rfl) ⟨K, rfl, DfOk.nil, fun i x hx => ?_, hmn, Bl.refl _ _⟩ fun σ1 a' m' w' H' hh hmo hd => ?_
 · match i with
   | 0 => injection hx with hx; subst hx; exact .lp _ 0 0 g0 p0
   | 1 => injection hx with hx; subst hx; exact .lp _ 1 0 g1 p1
   | 2 => injection hx with hx; subst hx; exact .lp _ 2 0 g2 p2
   | 3 => injection hx with hx; subst hx; exact .un _ _
   | 4 => injection hx with hx; subst hx; exact .un _ _
   | 5 => injection hx with hx; subst hx; exact .un _ _
   | 6 => injection hx with hx; subst hx; exact .un _ _
   | 7 => injection hx with hx; subst hx; exact .un _ _
   | n + 8 => cases hx
 · have hho : σ1.ho = fun b => hsZ.getD b .dead := by funext b; unfold St.ho; rw [hh]
   have K' := H'.K
   have hnm := H'.nm
   rw [hho] at K' hmo
   rw [hh] at hnm
   refine ⟨hd, _, rfl, .tuple #[], ?_, ⟨_, rfl⟩, ?_, m', K', fun b x e => hmo.mm b x e, hnm, hmo, H'.bl⟩
   · simp [results, Tryz.results82]
   · rfl
end Go.Proofs.YtlgnagnmoleeiaaGreat.E.Pc
namespace Go.Proofs.YtlgnagnmoleeiaaGreat.E.Pc
open Go.RowKit
set_option linter.unusedVariables false
set_option linter.unusedSimpArgs false
def zs4 : List V := [bo false, .sl [], bo false, .sl []]
def vZ : V := .tu [.ag ([ni 0, ni 0, .sl [], .sl [], .sl []] ++ (zs4 ++ (zs4 ++ (zs4 ++ (zs4 ++ zs4))))), ni 0, ni 2]
section
variable {B : List UInt8} {p : Ct.Pi} {n n1 n2 n3 n4 n5 n6 k N : Nat} {A A2 A3 : List Int} {r : Rat} {i : Nat} {id home : Int} {P : List (Int × Int)} {ws : List Bool} {Wl Wr : List Int} {vr : V}
abbrev IntsT (B : List UInt8) (n : Nat) : Prop := PureX (thrE badV) PP 83 (rdO B n) [.lp 0 0] (thrD 1)
abbrev RatT (B : List UInt8) (n : Nat) : Prop := PureX (thrE badV) PP 85 (rdO B n) [.lp 0 0] (thrD 1)
abbrev IntsG (B : List UInt8) (n n' : Nat) (A : List Int) : Prop := PureT PP 83 (rdO B n) [.lp 0 0] (.io 1 (rdO B n') (zl A))
abbrev RatG (B : List UInt8) (n n' : Nat) (r : Rat) : Prop := PureT PP 85 (rdO B n) [.lp 0 0] (.io 1 (rdO B n') (.ag (dR r)))
theorem dt_1 (h : IntsT B 0) : GDc vZ (rg fDc 3) (dc0 B) := by
 unfold dc0
 unfold IntsT rdO at *
 exact thD (n := 1) [] [3] resc1 h (by kernel_rfl) (by kernel_rfl) (by kernel_rfl) (by kernel_rfl) (by kernel_rfl) (by kernel_rfl)
theorem dt_2 (i1 : IntsG B 0 n1 A) (h : IntsT B n1) : GDc vZ (rg fDc 3) (dc0 B) := by
 unfold dc0
 unfold IntsT IntsG rdO at *
 exact thD (n := 3) [.lend _ _ _ _ [3] i1] [3] resc1 h (by kernel_rfl) (by kernel_rfl) (by kernel_rfl) (by kernel_rfl) (by kernel_rfl) (by kernel_rfl)
theorem dt_3 (i1 : IntsG B 0 n1 A) (i2 : IntsG B n1 n2 A2) (h : IntsT B n2) : GDc vZ (rg fDc 3) (dc0 B) := by
 unfold dc0
 unfold IntsT IntsG rdO at *
 exact thD (n := 5) [.lend _ _ _ _ [3] i1, .lend _ _ _ _ [3] i2] [3] resc1 h (by kernel_rfl) (by kernel_rfl) (by kernel_rfl) (by kernel_rfl) (by kernel_rfl) (by kernel_rfl)
theorem dt_4a (i1 : IntsG B 0 n1 A) (i2 : IntsG B n1 n2 A2) (i3 : IntsG B n2 n3 A3) (h : A.length ≠ 2) : GDc vZ (rg fDc 3) (dc0 B) := by
 have e : (((zs A).length : Int) == 2) = false := by rw [zs_len]; simpa using fun e => h (by omega)
 unfold dc0
 unfold IntsG rdO at *
 exact thD (n := 10) [.lend _ _ _ _ [3] i1, .lend _ _ _ _ [3] i2, .lend _ _ _ _ [3] i3, na e] [3] resc1 (must_thr (hs := rdO B n3) (k := 1) (x := .lp 0 0)) (by kernel_rfl) (by kernel_rfl) (by kernel_rfl) (by kernel_rfl) (by kernel_rfl) (by kernel_rfl)
theorem dt_4b (i1 : IntsG B 0 n1 A) (i2 : IntsG B n1 n2 A2) (i3 : IntsG B n2 n3 A3) (h : A.length = 2) (h2 : A2.length % 2 ≠ 0) : GDc vZ (rg fDc 3) (dc0 B) := by
 have e : (((zs A).length : Int) == 2) = true := by rw [zs_len, h]; rfl
 have m0 : ni (((zs A2).length : Int).tmod 2) = ni 1 := by
  rw [zs_len, show (2 : Int) = ((2 : Nat) : Int) from rfl, tmod_, show A2.length % 2 = 1 by omega]
  rfl
 unfold dc0
 unfold IntsG rdO at *
 exact thD (n := 10) [.lend _ _ _ _ [3] i1, .lend _ _ _ _ [3] i2, .lend _ _ _ _ [3] i3, ye e, .eqv 29 _ _ m0] [3] resc1 (must_thr (hs := rdO B n3) (k := 1) (x := .lp 0 0)) (by kernel_rfl) (by kernel_rfl) (by kernel_rfl) (by kernel_rfl) (by kernel_rfl) (by kernel_rfl)
theorem dt_5 {x : Int} (hx : x ≠ 0 ∧ x ≠ 1) : GDc vZ (lp fDc 1) (dcS B id home P ws n [(62, zl (wnI ws ++ x :: Wr)), (63, ni ((wnI ws ++ x :: Wr).length : Int)), (64, ni (ws.length : Int))]) := by
 have e : decide ((ws.length : Int) < ((wnI ws ++ x :: Wr).length : Int)) = true := decide_eq_true (by rw [List.length_append, wnI_len]; simp; omega)
 have e1 : (zs (wnI ws ++ x :: Wr))[ws.length]? = some [ni x] := zs_at (by rw [List.getElem?_append_right (by rw [wnI_len]; exact Nat.le_refl _), wnI_len, Nat.sub_self]; rfl)
 have e2 : (x == 0) = false := by simpa using hx.1
 have e3 : ((x == 1) : Bool) = false := by simpa using hx.2
 have e4 : bo (x == 1) = bo false := by rw [e3]
 unfold dcS
 unfold pcB
 have mt := must_thr (hs := rdO B n) (k := 1) (x := .lp 0 0)
 unfold rdO at *
 generalize Ct.ptR P = PR at *
 generalize Ct.wnR ws = WR at *
 generalize wnI ws ++ x :: Wr = WL at *
 exact thD (n := 7) [ye e, .sel _ _ _ e1, na e2, .eqv 73 _ _ e4] [3] resc1 mt (by kernel_rfl) (by kernel_rfl) (by kernel_rfl) (by kernel_rfl) (by kernel_rfl) (by kernel_rfl)
section
variable (hN : (N : Int) = (ws.length : Int))
include hN
theorem dt_6 (h : IntsT B n) : GDc vZ (lp fDc 1) (dcS B id home P ws n [(62, zl Wl), (63, ni (N : Int)), (64, ni (ws.length : Int))]) := by
 rw [hN]
 have e : decide ((ws.length : Int) < (ws.length : Int)) = false := decide_eq_false (by omega)
 unfold dcS
 unfold pcB
 unfold IntsT rdO at *
 generalize Ct.ptR P = PR at *
 generalize Ct.wnR ws = WR at *
 exact thD (n := 1) [na e] [3] resc1 h (by kernel_rfl) (by kernel_rfl) (by kernel_rfl) (by kernel_rfl) (by kernel_rfl) (by kernel_rfl)
theorem dt_7 (i4 : IntsG B n n1 A)  (h : RatT B n1) : GDc vZ (lp fDc 1) (dcS B id home P ws n [(62, zl Wl), (63, ni (N : Int)), (64, ni (ws.length : Int))]) := by
 rw [hN]
 have e : decide ((ws.length : Int) < (ws.length : Int)) = false := decide_eq_false (by omega)
 unfold dcS
 unfold pcB
 unfold IntsG RatT rdO at *
 generalize Ct.ptR P = PR at *
 generalize Ct.wnR ws = WR at *
 exact thD (n := 1) [na e, .lend _ _ _ _ [3] i4] [3] resc1 h (by kernel_rfl) (by kernel_rfl) (by kernel_rfl) (by kernel_rfl) (by kernel_rfl) (by kernel_rfl)
theorem dt_8 (i4 : IntsG B n n1 A) (r0 : RatG B n1 n2 p.tol) (h : RatT B n2) : GDc vZ (lp fDc 1) (dcS B id home P ws n [(62, zl Wl), (63, ni (N : Int)), (64, ni (ws.length : Int))]) := by
 rw [hN]
 have e : decide ((ws.length : Int) < (ws.length : Int)) = false := decide_eq_false (by omega)
 unfold dcS
 unfold pcB
 unfold IntsG RatT RatG rdO at *
 generalize Ct.ptR P = PR at *
 generalize Ct.wnR ws = WR at *
 exact thD (n := 3) [na e, .lend _ _ _ _ [3] i4, .lend _ _ _ _ [3] r0] [3] resc1 h (by kernel_rfl) (by kernel_rfl) (by kernel_rfl) (by kernel_rfl) (by kernel_rfl) (by kernel_rfl)
theorem dt_9 (i4 : IntsG B n n1 A) (r0 : RatG B n1 n2 p.tol) (r1 : RatG B n2 n3 p.light) (h : RatT B n3) : GDc vZ (lp fDc 1) (dcS B id home P ws n [(62, zl Wl), (63, ni (N : Int)), (64, ni (ws.length : Int))]) := by
 rw [hN]
 have e : decide ((ws.length : Int) < (ws.length : Int)) = false := decide_eq_false (by omega)
 unfold dcS
 unfold pcB
 unfold IntsG RatT RatG rdO at *
 generalize Ct.ptR P = PR at *
 generalize Ct.wnR ws = WR at *
 exact thD (n := 5) [na e, .lend _ _ _ _ [3] i4, .lend _ _ _ _ [3] r0, .lend _ _ _ _ [3] r1] [3] resc1 h (by kernel_rfl) (by kernel_rfl) (by kernel_rfl) (by kernel_rfl) (by kernel_rfl) (by kernel_rfl)
theorem dt_10 (i4 : IntsG B n n1 A) (r0 : RatG B n1 n2 p.tol) (r1 : RatG B n2 n3 p.light) (r2 : RatG B n3 n4 p.heavy) (h : RatT B n4) : GDc vZ (lp fDc 1) (dcS B id home P ws n [(62, zl Wl), (63, ni (N : Int)), (64, ni (ws.length : Int))]) := by
 rw [hN]
 have e : decide ((ws.length : Int) < (ws.length : Int)) = false := decide_eq_false (by omega)
 unfold dcS
 unfold pcB
 unfold IntsG RatT RatG rdO at *
 generalize Ct.ptR P = PR at *
 generalize Ct.wnR ws = WR at *
 exact thD (n := 7) [na e, .lend _ _ _ _ [3] i4, .lend _ _ _ _ [3] r0, .lend _ _ _ _ [3] r1, .lend _ _ _ _ [3] r2] [3] resc1 h (by kernel_rfl) (by kernel_rfl) (by kernel_rfl) (by kernel_rfl) (by kernel_rfl) (by kernel_rfl)
theorem dt_11 (i4 : IntsG B n n1 A) (r0 : RatG B n1 n2 p.tol) (r1 : RatG B n2 n3 p.light) (r2 : RatG B n3 n4 p.heavy) (r3 : RatG B n4 n5 p.str) (h : RatT B n5) : GDc vZ (lp fDc 1) (dcS B id home P ws n [(62, zl Wl), (63, ni (N : Int)), (64, ni (ws.length : Int))]) := by
 rw [hN]
 have e : decide ((ws.length : Int) < (ws.length : Int)) = false := decide_eq_false (by omega)
 unfold dcS
 unfold pcB
 unfold IntsG RatT RatG rdO at *
 generalize Ct.ptR P = PR at *
 generalize Ct.wnR ws = WR at *
 exact thD (n := 9) [na e, .lend _ _ _ _ [3] i4, .lend _ _ _ _ [3] r0, .lend _ _ _ _ [3] r1, .lend _ _ _ _ [3] r2, .lend _ _ _ _ [3] r3] [3] resc1 h (by kernel_rfl) (by kernel_rfl) (by kernel_rfl) (by kernel_rfl) (by kernel_rfl) (by kernel_rfl)
end
theorem dt_12 {z : Int} (hN : N = p.worn.length) (i4 : IntsG B n n1 p.marks) (r0 : RatG B n1 n2 p.tol) (r1 : RatG B n2 n3 p.light) (r2 : RatG B n3 n4 p.heavy) (r3 : RatG B n4 n5 p.str) (r4 : RatG B n5 n6 p.rough) (cv : Pure PP 12 [.ag p.v] (ni z)) (hz : (z == 0) = false) : GDc vZ (lp fDc 1) (dcS B p.id p.home p.rim p.worn n [(62, zl Wl), (63, ni (N : Int)), (64, ni (p.worn.length : Int))]) := by
 subst hN
 have e : decide ((p.worn.length : Int) < (p.worn.length : Int)) = false := decide_eq_false (by omega)
 have hv : p.v = [ni p.id, ni p.home, .sl (Ct.ptR p.rim), .sl (Ct.wnR p.worn), zl p.marks] ++ (dR p.tol ++ (dR p.light ++ (dR p.heavy ++ (dR p.str ++ dR p.rough)))) := rfl
 have e1 : bo (z == 0) = bo false := by rw [hz]
 have mt := must_thr (hs := rdO B n6) (k := 1) (x := .lp 0 0)
 unfold dcS
 unfold pcB
 unfold IntsG RatG rdO at *
 rw [hv] at cv
 generalize Ct.ptR p.rim = PR at *
 generalize Ct.wnR p.worn = WR at *
 exact thD (n := 4) [na e, .lend _ _ _ _ [3] i4, .lend _ _ _ _ [3] r0, .lend _ _ _ _ [3] r1, .lend _ _ _ _ [3] r2, .lend _ _ _ _ [3] r3, .lend _ _ _ _ [3] r4, cl cv, .eqv 105 _ _ e1] [3] resc1 mt (by kernel_rfl) (by kernel_rfl) (by kernel_rfl) (by kernel_rfl) (by kernel_rfl) (by kernel_rfl)
end
end Go.Proofs.YtlgnagnmoleeiaaGreat.E.Pc
