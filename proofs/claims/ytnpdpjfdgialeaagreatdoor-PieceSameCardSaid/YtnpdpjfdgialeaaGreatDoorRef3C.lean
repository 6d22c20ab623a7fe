/-
 THE WALKS of the reference of package integer: Neg, Compare, Sign, Add, Mul.
-/
import Derived.Test.YtnpdpjfdgialeaaGreatDoorEwB
import Derived.Defers
import Derived.Recover
import Derived.Shelf.Slices.Delete
import Derived.Test.YtnpdpjfdgialeaaGreatDoorFlow
import Derived.Test.YtnpdpjfdgialeaaGreatDoorRows
import Derived.WalkLawsBesides
import Derived.LoopTactic
import Derived.BigQuiet
import Derived.Deep.QuietTactic
import Derived.Deep.RegionHeld3
import Derived.RegionTactic
import Derived.ChangeAlike
import Derived.BigRegion
import Derived.Laws.CopyOwn
import Derived.Test.YtnpdpjfdgialeaaGreatDoorEmY
import Derived.Deep.DeepCutAuto
namespace Go.Proofs.YtnpdpjfdgialeaaGreatDoor.E
open Go.RowKit
set_option linter.unusedVariables false
set_option linter.unusedSimpArgs false
section
variable {P : Program} {f g : FuncId} {fn : Func} {bs : List Nat} {v : V}
/-- A closure that turns nothing where the function returns. -/
def Idle (P : Program) (g : FuncId) (k : Nat) : Prop := okF P g ∧ ∀ (cap : Array Value) (w : World), cap.size = k → CallsD P g cap .returning w fun e u' w' => (∃ v, e = .returned v) ∧ u' = .returning ∧ w' = w
/-- A closure that holds boxes, put off. -/
def dfr (g : FuncId) (bs : List Nat) (m0 : Nat → Option Value) : List Deferred := [{ target := .fn (.func g) (bs.map fun b => (m0 b).getD undef).toArray, args := #[] }]
noncomputable def capB (σ : St) : List Operand → Option (List Nat)
 | [] => some []
 | x :: r => match σ.ev x, capB σ r with
   | .lp b o, some l => match o with
     | 0 => some (b :: l)
     | _ => none
   | _, _ => none
theorem capB_ok {B M : Nat → Prop} {w0 w : World} {σ : St} {a : Act} {m : Nat → Option Value} (H : SOk B M w0 σ a m w) : ∀ (l : List Operand) (bs : List Nat), capB σ l = some bs → l.map a.eval = bs.map fun b => (m b).getD undef
 | [], bs, e => by
  simp only [capB, Option.some.injEq] at e
  subst e
  rfl
 | x :: r, bs, e => by
  unfold capB at e
  split at e
  · rename_i b o l hx hr
    split at e
    · simp only [Option.some.injEq] at e
      subst e
      have h1 := ev_rep (a := a) (x := x) (σ := σ) (w := w) (A := Av M σ.ho m) (m := m) H.K.gl fun t _ => H.slot t
      rw [hx] at h1
      rw [List.map_cons, List.map_cons, capB_ok H r l hr]
      generalize a.eval x = u at h1
      cases h1 with
      | lp _ _ _ g' h' => simp [h']
    · cases e
  · cases e
/-- What a region of two operations puts off. -/
noncomputable def defB (td : List Item) (σ : St) (n t : Nat) (g : FuncId) : Option (List Nat) := match td with
 | .code (.region _ ops false) :: _ => match ops.toList with
   | [o1, o2] => match o1.op, o1.guard, o1.dst, o2.op, o2.guard, o2.dst with
     | .makeFunc (.func g') first cs, none, some t1, .defer c, none, none => match first.toList, c.callee, c.args.toList with
       | [], .value (.tmp t2), [] => match Nat.beq t1 t && (Nat.beq t2 t && (Nat.beq g' g && (Nat.blt t σ.t.length && (List.range n).all fun j => (σ.ho j).own))) with
         | true => capB σ cs.toList
         | false => none
       | _, _, _ => none
     | _, _, _, _, _, _ => none
   | _ => none
 | _ => none
theorem Gd.defer {td : List Item} {σ : St} {n t : Nat} (e : defB td σ (n + 1) t g = some bs) (h : Gd P f (.df (n + 1) (dfr g bs) v) td.tail ⟨σ.t.set t .un, σ.h⟩) : Gd P f (.v v) td σ := by
 intro w0 B M m0 b a m w cs hf hk hrs hM H
 unfold defB at e
 split at e
 · rename_i id ops k
   split at e
   · rename_i o1 o2 hops
     split at e
     · rename_i g' first cp t1 c h1 h2 h3 h4 h5 h6
       split at e
       · rename_i t2 e1 e2 e3
         split at e
         · rename_i hb
           simp only [Bool.and_eq_true, List.all_eq_true, List.mem_range] at hb
           obtain ⟨b1, b2, b3, hlt, hown⟩ := hb
           have b1 := Nat.eq_of_beq_eq_true b1
           have b2 := Nat.eq_of_beq_eq_true b2
           have b3 := Nat.eq_of_beq_eq_true b3
           subst b1
           subst b2
           subst b3
           have hlt : t2 < σ.t.length := Nat.le_of_ble_eq_true hlt
           have hcap := capB_ok H _ _ e
           have hfirst : first = #[] := by apply Array.ext'; exact e1
           have hargs : c.args = #[] := by apply Array.ext'; exact e3
           have hcp : cp.map a.eval = (bs.map fun b => (m b).getD undef).toArray := by apply Array.ext'; simpa using hcap
           let clo : Value := .func (.func g') #[] (cp.map a.eval)
           let D : Deferred := { target := .fn (.func g') (cp.map a.eval), args := #[] }
           let a2 : Act := { (a.put (some t2) clo) with defers := D :: a.defers }
           have hput : (a.put (some t2) clo).eval (.tmp t2) = clo := by
            show (a.put (some t2) clo).tmps.getD t2 undef = clo
            rw [put_get (by rw [H.sz]; exact hlt), if_pos rfl]
           have hwp : (Code.region id ops false).wpIn Fence.wide 0 P (fun e a' w' => e = .normal ∧ a' = a2 ∧ w' = w) a w := by
            refine wpIn_region_list ?_
            rw [hops]
            simp only [wpListIn, wanted_none h2, if_true]
            refine ⟨fun f _ => trivial, ?_⟩
            have r1 : (o1.semAt Fence.wide.round a.eval).run P w = .ok (.value clo) w := by
             rw [Oper.semAt_plain _ _ _ (fun c e => by rw [h1] at e; cases e)]
             simp [execOp, h1, hfirst, Instr.makeFunc, clo]
            rw [r1, Oper.uponIn_value, h3]
            rw [if_pos (wanted_none h5)]
            refine ⟨fun f _ => trivial, ?_⟩
            have r2 : (o2.semAt Fence.wide.round (a.put (some t2) clo).eval).run P w = .ok (.defer D) w := by
             show (execOp (a.put (some t2) clo).eval o2).run P w = _
             simp [execOp, h4, resolve, e2, hargs, hput, clo, Deferred.ofValue, D]
            rw [r2, Oper.uponIn_defer, h6]
            exact ⟨trivial, rfl, rfl⟩
           obtain ⟨e', a', w', ⟨rfl, rfl, rfl⟩, harr⟩ := wpIn_wide.1 hwp b k cs
           have hun : isMark D = false := rfl
           have H2 : SOk B M w0 ⟨σ.t.set t2 .un, σ.h⟩ a2 m w' := by
            refine ⟨H.K, ?_, ?_, fun i x hx => ?_, H.nm, H.bl⟩
            · show (a.put (some t2) clo).tmps.size = _
              rw [put_size.1, H.sz, List.length_set]
            · obtain ⟨Ds, q0, q1, q2⟩ := H.df
              exact ⟨Ds, by show (D :: a.defers).filter isMark = _; rw [List.filter_cons, hun]; exact q0, q1, q2⟩
            · have hx : (σ.t.set t2 .un)[i]? = some x := hx
              by_cases hi : t2 = i
              · subst hi
                rw [List.getElem?_set_self hlt] at hx
                injection hx with hx
                subst hx
                exact .un _ _
              · rw [List.getElem?_set_ne hi] at hx
                have hil := (List.getElem?_eq_some_iff.1 hx).1
                show Rep _ _ _ ((a.put (some t2) clo).tmps.getD i undef) x
                rw [put_get (by rw [H.sz]; exact hil), if_neg (by simpa using hi)]
                exact H.tm i x hx
           obtain ⟨e2, w2, fr, q1, q2, q3⟩ := h w0 B M m b a2 m w' cs hf hk (by
             show unmk (D :: a.defers) = dfr g' bs m
             have : unmk (D :: a.defers) = D :: unmk a.defers := by unfold unmk; rw [List.filter_cons, hun]; rfl
             rw [this, hrs]
             show [D] = dfr g' bs m
             unfold dfr
             simp only [D, hcp]) (fun j hj => ⟨rfl, by
             obtain ⟨x, hx⟩ := own_some H.K (hown j hj)
             rw [hx]
             intro e
             cases e⟩) H2
           exact ⟨e2, w2, fr, q1, .of_steps harr q2, q3⟩
         · cases e
       · cases e
     · cases e
   · cases e
 · cases e
/-- What is put off is done: marks, and a closure that turns nothing. -/
theorem SOk.dropM {B M : Nat → Prop} {w0 w : World} {σ : St} {a : Act} {m : Nat → Option Value} (H : SOk B M w0 σ a m w) {d : Deferred} {ds : List Deferred} (hd : a.defers = d :: ds) (hk : isMark d = true) :
  ∃ D w', d.target = .collected D ∧ (Instr.takeDeferred D).run P w = .ok [] w' ∧ SOk B M w0 σ { a with defers := ds } m w' := by
 obtain ⟨Ds, h0, hn, h⟩ := H.df
 rw [hd, List.filter_cons, hk] at h0
 cases Ds with
 | nil => cases h0
 | cons D Ds =>
   simp only [if_true, List.map_cons, List.cons.injEq] at h0
   obtain ⟨rfl, h0⟩ := h0
   obtain ⟨h1, h2, h3⟩ := h D (List.mem_cons_self ..)
   rw [List.nodup_cons] at hn
   refine ⟨D, w.putObj D (.deferred none), rfl, run_takeDeferred h2, ⟨H.K.put h2 rfl, H.sz, ⟨Ds, h0, hn.2, fun D' hD' => ?_⟩, fun i x hx => (H.tm i x hx).put h2 rfl, H.nm, ?_⟩⟩
   · obtain ⟨q1, q2, q3⟩ := h D' (List.mem_cons_of_mem _ hD')
     exact ⟨q1, (World.putObj_heap_other fun e => hn.1 (by rw [← e]; exact hD')).trans q2, q3⟩
   · exact H.bl.trans ⟨rfl, rfl, rfl, by simp [World.putObj], fun k hk => World.putObj_heap_other fun e => h1 (e ▸ hk)⟩
theorem defs_off {B M : Nat → Prop} {w0 : World} {σ : St} {m : Nat → Option Value} {cs : List Frame} {cap : Array Value} {kk : Nat} (hI : Idle P g kk) (hcap : cap.size = kk) : ∀ (n : Nat) (a : Act) (w : World) (fr : Frame), a.defers.length = n → unmk a.defers = [{ target := .fn (.func g) cap, args := #[] }] → SOk B M w0 σ a m w → fr.mode = .returning → fr.defers = a.defers → fr.tmps = a.tmps →
  ∃ w' fr', Steps P (lone fr cs w) (lone fr' cs w') ∧ SOk B M w0 σ { a with defers := [] } m w' ∧ fr'.mode = .returning ∧ fr'.defers = [] ∧ fr'.tmps = a.tmps ∧ fr'.kind = fr.kind ∧ fr'.fn = fr.fn
 | 0, a, w, fr, hl, hrs, H, h1, h2, h3 => by
  have h0 : a.defers = [] := List.length_eq_zero_iff.1 hl
  rw [h0] at hrs
  cases hrs
 | n + 1, a, w, fr, hl, hrs, H, h1, h2, h3 => by
  match hd : a.defers with
  | [] => rw [hd] at hl; cases hl
  | d :: ds =>
    cases hm : isMark d with
    | true =>
      obtain ⟨D, w', q1, q2, q3⟩ := H.dropM (P := P) hd hm
      have hr2 : unmk ds = [{ target := .fn (.func g) cap, args := #[] }] := by
       rw [← hrs, hd]
       unfold unmk
       rw [List.filter_cons, hm]
       rfl
      obtain ⟨w2, fr2, k1, k2, k3, k4, k5, k6, k7⟩ := defs_off (cs := cs) hI hcap n { a with defers := ds } w' { fr with defers := ds } (by rw [hd] at hl; simpa using hl) hr2 q3 h1 rfl h3
      refine ⟨w2, fr2, .trans (.one (step_collected (by rw [h1]; intro e; cases e) (h2.trans hd) q1 q2)) ?_, k2, k3, k4, k5, k6, k7⟩
      simpa using k1
    | false =>
      have hr2 : d = { target := .fn (.func g) cap, args := #[] } ∧ unmk ds = [] := by
       rw [hd] at hrs
       unfold unmk at hrs
       rw [List.filter_cons, hm] at hrs
       simp only [Bool.not_false, if_true, List.cons.injEq] at hrs
       exact hrs
      obtain ⟨rfl, hr3⟩ := hr2
      have hs1 := step_defer (P := P) (cs := cs) (w := w) (f := g) (args := cap) (by rw [h1]; intro e; cases e) (h2.trans hd) rfl (by
        have := hI.1 cap w
        simp [invoke, this])
      obtain ⟨e, u', w', frX, ⟨⟨v, rfl⟩, rfl, rfl⟩, hst, hkX, hgo⟩ := hI.2 cap w hcap { fr with defers := ds } cs h1
      have hs2 := step_going_returned (c := { { fr with defers := ds } with mode := .returning }) (cs := cs) hkX hgo
      have H2 : SOk B M w0 σ { a with defers := ds } m w' := by
       refine ⟨H.K, H.sz, ?_, H.tm, H.nm, H.bl⟩
       obtain ⟨Ds, q0, q1, q2⟩ := H.df
       refine ⟨Ds, ?_, q1, q2⟩
       rw [hd, List.filter_cons, hm] at q0
       exact q0
      obtain ⟨w2, fr2, k1, k2, k3, k4, k5, k6, k7⟩ := marks_off (P := P) (cs := cs) _ { a with defers := ds } w' { { { fr with defers := ds } with mode := .returning } with mode := settle .returning } rfl hr3 H2 rfl rfl h3
      exact ⟨w2, fr2, .head hs1 (.trans hst (.head hs2 k1)), k2, k3, k4, k5, k6, k7⟩
theorem Gd.finD (hf : P.funcs[f]? = some fn) {td : List Item} {σ : St} {n : Nat} (hI : Idle P g bs.length) (he : isEnd td = true) (ho : outV P fn σ (.v v) = some (.v v)) : Gd P f (.df (n + 1) (dfr g bs) v) td σ := by
 intro w0 B M m0 b a m w cs hfn hkd hrs hM H
 have hfin : ∀ fr : Frame, Steps P (lone (b.at a td) cs w) (lone fr cs w) → fr.mode = .returning → fr.defers = a.defers → fr.kind = .normal → fr.fn = f → fr.tmps = a.tmps → ∃ e w' fr, (∃ v_1, e = .returned v_1 ∧ RD.ok (.df (n + 1) (dfr g bs) v) B M m0 w' v_1 ∧ Bl B w0 w') ∧ Comes P (lone (b.at a td) cs w) (lone fr cs w') e ∧ fr.fn = f ∧ fr.leaving P w' e := by
  intro fr hc q1 q2 q3 q4 q5
  obtain ⟨w', fr', k1, k2, k3, k4, k5, k6, k7⟩ := defs_off (P := P) (cs := cs) hI (cap := (bs.map fun b => (m0 b).getD undef).toArray) (by simp) _ a w fr rfl hrs H q1 q2 q5
  obtain ⟨u, h4, h6⟩ := res_out (d := .v v) (m0 := m0) (fun j hj => absurd hj (Nat.not_lt_zero _)) ho k2
  exact ⟨.returned u, w', fr', ⟨u, rfl, h6, k2.bl⟩, Steps.trans hc k1, k7.trans q4, k3, k4, k6.trans q3, fn, by rw [k7, q4]; exact hf, by rw [k5]; exact h4⟩
 cases td with
 | nil => exact hfin _ (Steps.one step_end) rfl rfl hkd hfn rfl
 | cons x k =>
   cases x with
   | code c =>
     cases c with
     | ret => exact hfin _ (Steps.one step_ret) rfl rfl hkd hfn rfl
     | _ => cases he
   | _ => cases he
end
/-- To the end of a function that has put off a closure. -/
theorem fiD {f g : FuncId} {bs : List Nat} {v : V} {n : Nat} {td : List Item} {σ : St} (hI : Idle PP g bs.length) (sc : List (Fa PP)) (h : okB PP f = true) (e : met (runE PP (fnOf PP f) (.v v) td σ sc) = told (runE PP (fnOf PP f) (.v v) td σ sc) (.v v)) : Gd PP f (.df (n + 1) (dfr g bs) v) td σ := by
 obtain ⟨ks, h1⟩ := met_told e
 unfold runE at h1
 split at h1
 · rename_i td' σ' ks' hr
   split at h1
   · rename_i he
     split at h1
     · rename_i v ho
       simp only [Option.some.injEq, Prod.mk.injEq] at h1
       obtain ⟨h2, h3, rfl⟩ := h1
       exact run_ok mo_ _ _ _ _ _ _ _ _ hr (ks_ok (h2.trans h3.symm)) (.finD (fn_of h).1 hI he ho)
     · cases h1
   · cases h1
 · cases h1
end Go.Proofs.YtnpdpjfdgialeaaGreatDoor.E
namespace Go.Proofs.YtnpdpjfdgialeaaGreatDoor.E.Pc
open Go.RowKit Go.Shelf
set_option linter.unusedVariables false
set_option linter.unusedSimpArgs false
def ren : Ren := ⟨fun _ => 183, fun x => match x with | 0 => 0 | 3 => 3 | 4 => 4 | _ => 22, fun x => x⟩
theorem lay : Lays2.n23 PP ren where
 mixed := mo_
 f23 := by kernel_rfl
 t0 := by kernel_rfl
 a0 := fun _ => by kernel_rfl
 z0 := fun _ => by kernel_rfl
 v0 := fun _ => by kernel_rfl
 t3 := by kernel_rfl
 a3 := fun _ => by kernel_rfl
 z3 := fun _ => by kernel_rfl
 v3 := fun _ => by kernel_rfl
 t4 := by kernel_rfl
 a4 := fun _ => by kernel_rfl
 z4 := fun _ => by kernel_rfl
 v4 := fun _ => by kernel_rfl
 t22 := by kernel_rfl
 a22 := fun _ => by kernel_rfl
 z22 := fun _ => by kernel_rfl
 v22 := fun _ => by kernel_rfl
 i3 := by kernel_rfl
theorem zs_flat : ∀ (l : List Int), (zs l).flatten = l.map fun x => ni x
 | [] => rfl
 | x :: l => congrArg (ni x :: ·) (zs_flat l)
theorem e_del {l : List Int} {p : Nat} (hp : p < l.length) : PureT PP 183 [.rw 3 1 (zs l)] [.ow 0, ni (p : Int), ni ((p + 1 : Nat) : Int)] (.io 1 [.dead, .rw 3 1 (zs (l.eraseIdx p))] (.ow 1)) := by
 refine ⟨okF_of (by kernel_rfl), fun w B M m args K hm hn hargs => ?_⟩
 obtain ⟨v, xs, h1, h2, h3, h4, h5⟩ := K.rw 0 3 1 (zs l) rfl
 have hzl : (zs l).length = l.length := zs_len l
 obtain ⟨hxs, h3⟩ := h3
 obtain ⟨g, cap, cur, hv, hB, hh, k0, k1, hsz, htk⟩ := h3.resolve_left (fun e => by omega)
 subst hv
 rw [hzl, Nat.mul_one] at hxs htk
 rw [Nat.mul_one] at hsz
 rw [hzl] at k0
 have hxl : ∀ j (h : j < l.length), cur.getD j undef = .int .i64 l[j] := fun j h => by
  have e : (zs l).flatten[j]? = some (ni l[j]) := by rw [zs_flat, List.getElem?_map, List.getElem?_eq_getElem h]; rfl
  have h6 := Rep.k_inv (h5 j _ e)
  rw [← h6, ← htk, List.getD_eq_getElem?_getD, List.getElem?_take, if_pos (by omega), Array.getElem?_toList, Array.getD_eq_getD_getElem?]
 have hglt := (Array.getElem?_eq_some_iff.1 hh).1
 have hH : Go.Sort.Holds (Value.int .i64) w g 0 l.toArray := fun j hj => by
  have hj : j < l.length := by simpa using hj
  have hjc : j < cur.size := by omega
  have e := hxl j hj
  rw [Array.getD_eq_getD_getElem?, Array.getElem?_eq_getElem hjc] at e
  refine ⟨?_, ?_⟩
  · rw [Nat.zero_add]
    simp only [World.cell?, hh]
    rw [getElem!_pos l.toArray j (by simpa using hj), Array.getElem?_eq_getElem hjc]
    simpa using e
  · rw [Nat.zero_add]
    simp [World.frozen?, hh]
 have ha0 := hargs.el 0 _ rfl
 have ha1 := Rep.k_inv (hargs.el 1 _ rfl)
 have ha2 := Rep.k_inv (hargs.el 2 _ rfl)
 have hs3 := hargs.sz
 have hargs' : args = #[.slice (some ⟨g, 0, none⟩) l.length cap, .int .i64 (p : Int), .int .i64 ((p + 1 : Nat) : Int)] := by
  generalize hu : args.getD 0 undef = u at ha0
  cases ha0 with
  | ow _ _ ad n' c' hmm =>
    rw [h1] at hmm
    injection hmm with hmm
    rw [← hmm, hzl] at hu
    apply Array.ext
    · simpa using hs3
    · intro i hi hi'
      simp only [List.length_cons, List.length_nil] at hs3
      have hi3 : i < 3 := by simpa using hi'
      match i, hi3 with
      | 0, _ => rw [Array.getD_eq_getD_getElem?, Array.getElem?_eq_getElem hi] at hu; exact hu
      | 1, _ => rw [Array.getD_eq_getD_getElem?, Array.getElem?_eq_getElem hi] at ha1; exact ha1
      | 2, _ => rw [Array.getD_eq_getD_getElem?, Array.getElem?_eq_getElem hi] at ha2; exact ha2
 subst hargs'
 refine (Any.slices_Delete_int lay g 0 cap p (p + 1) l w hH k0 (Nat.le_trans k1 (by unfold maxLen; omega)) (by omega) (by omega)).mono fun e w' ⟨he, q, hw⟩ => ?_
 subst he
 have hlen : (l.eraseIdx p).length = l.length - (p + 1 - p) := by rw [List.length_eraseIdx_of_lt hp]; omega
 have herase : l.take p ++ l.drop (p + 1) = l.eraseIdx p := (List.eraseIdx_eq_take_drop_succ ..).symm
 rw [herase] at hw
 generalize hL' : l.eraseIdx p = l' at *
 have hrep : p + 1 - p = 1 := by omega
 rw [hrep] at hw hlen
 have has : (l' ++ List.replicate 1 (0 : Int)).toArray.size = l.length := by simp; omega
 generalize hAr : (l' ++ List.replicate 1 (0 : Int)).toArray = ar at *
 have hget : ∀ j (h : j < l'.length), ar[j]! = l'[j] := fun j h => by
  rw [← hAr, getElem!_pos _ j (by simp; omega)]
  simp only [List.getElem_toArray]
  rw [List.getElem_append_left h]
 have hheap : w'.heap[g]? = some (.cells (Go.Sort.putCells (Value.int .i64) 0 ar cur) 3 (0, 0)) := by
  rw [hw]
  simp only [Go.Sort.putRow, Go.Sort.mapBlock, Go.Sort.heap_ahead]
  rw [Array.getElem?_modify, if_pos rfl, hh]
  rfl
 have hg : w.grownBy w' (some g) := by
  refine ⟨?_, ?_, ?_, ?_, fun k hk hne => ?_⟩
  · rw [hw]; rfl
  · rw [hw]; rfl
  · rw [hw]; rfl
  · rw [hw]; simp
  · rw [hw]
    simp only [Go.Sort.putRow, Go.Sort.mapBlock, Go.Sort.heap_ahead]
    rw [Array.getElem?_modify, if_neg (fun e => hne (by rw [e]))]
 have hput : ∀ j (h : j < l'.length), (Go.Sort.putCells (Value.int .i64) 0 ar cur)[j]? = some (.int .i64 l'[j]) := fun j h => by
  unfold Go.Sort.putCells
  rw [Array.getElem?_mapIdx, Array.getElem?_eq_getElem (by omega : j < cur.size)]
  simp only [Option.map_some, Nat.zero_le, true_and, Nat.zero_add, Nat.sub_zero, has]
  rw [if_pos (by omega), hget j h]
 have hsz' : (Go.Sort.putCells (Value.int .i64) 0 ar cur).size = cap := by unfold Go.Sort.putCells; rw [Array.size_mapIdx, hsz]
 have hzl' : (zs l').length = l'.length := zs_len l'
 have row : OwR w' B 3 1 (.slice (some ⟨g, 0, none⟩) (l.length - 1) cap) (zs l').length (l'.map (Value.int .i64)) := by
  refine ⟨by rw [hzl', List.length_map, Nat.mul_one], .inr ⟨g, cap, _, by rw [hzl', hlen], hB, hheap, by omega, k1, by rw [hsz', Nat.mul_one], ?_⟩⟩
  rw [hzl', Nat.mul_one]
  apply List.ext_getElem?
  intro j
  rw [List.getElem?_take, List.getElem?_map, Array.getElem?_toList]
  by_cases h : j < l'.length
  · rw [if_pos h, hput j h, List.getElem?_eq_getElem h]; rfl
  · rw [if_neg h, List.getElem?_eq_none (by omega)]; rfl
 have hm1 : m 1 = none := by
  cases e : m 1 with
  | none => rfl
  | some x => exact absurd (hm 1 (by rw [e]; intro e; cases e)) (by simp)
 obtain ⟨K2, _⟩ := K.app (b := 0) (i := 1) (x := .rw 3 1 (zs l')) (u' := .slice (some ⟨g, 0, none⟩) (l.length - 1) cap) rfl h1 rfl (by omega) rfl hm1 hg (fun g' e => .inl e) (fun T l e => by cases e) (fun T z l2 e => by
  injection e with e1 e2 e3
  subst e1; subst e2; subst e3
  refine ⟨_, fun cs hc => ?_, row, fun u hu => ?_, fun j x hx => ?_⟩
  · unfold zs at hc
    obtain ⟨y, _, rfl⟩ := List.mem_map.1 hc
    rfl
  · obtain ⟨y, _, rfl⟩ := List.mem_map.1 hu
    rfl
  · rw [zs_flat, List.getElem?_map] at hx
    have hj : j < l'.length := by
     rcases Nat.lt_or_ge j l'.length with h | h
     · exact h
     · rw [List.getElem?_eq_none h] at hx; cases hx
    rw [List.getElem?_eq_getElem hj] at hx
    simp only [Option.map_some, Option.some.injEq] at hx
    subst hx
    rw [List.getD_eq_getElem?_getD, List.getElem?_map, List.getElem?_eq_getElem hj]
    exact .k _ _) rfl
 refine ⟨_, rfl, ⟨_, _, K2, fun j hj => upd_ne (by omega), fun j hj => ?_, .ow _ _ _ _ _ (by rw [hrep]; exact upd_eq)⟩, Bl.grown hg K.bs fun k hk => by injection hk with hk; subst hk; exact hB⟩
 have hj : j < 2 := hj
 match j, hj with
 | 0, _ => rfl
 | 1, _ => rfl
end Go.Proofs.YtnpdpjfdgialeaaGreatDoor.E.Pc
namespace Go.Proofs.YtnpdpjfdgialeaaGreatDoor
set_option maxHeartbeats 1000000
open Go.RowKit
/-- How two numbers compare. -/
def cmpZ (x y : Int) : Int := if x < y then -1 else if y < x then 1 else 0
theorem cmpZ_lt {x y : Int} (h : x < y) : cmpZ x y = -1 := by unfold cmpZ; rw [if_pos h]
theorem cmpZ_gt {x y : Int} (h : y < x) : cmpZ x y = 1 := by unfold cmpZ; rw [if_neg (by omega), if_pos h]
theorem cmpZ_eq {x y : Int} (h : x = y) : cmpZ x y = 0 := by unfold cmpZ; rw [if_neg (by omega), if_neg (by omega)]
theorem cmp_len {a b : List Int} (ha : I.Can a) (hb : I.Can b) (h : a.length ≠ b.length) : cmpZ (a.length : Int) (b.length : Int) = cmpZ (I.val a) (I.val b) := by
 by_cases h1 : a.length < b.length
 ·have h2 : I.val a < I.val b := by
   by_cases h3 : I.val a < I.val b
   ·exact h3
   ·have := I.Can.len hb ha.1 (by omega); omega
  rw [cmpZ_lt (by omega), cmpZ_lt h2]
 ·have h2 : I.val b < I.val a := by
   by_cases h3 : I.val b < I.val a
   ·exact h3
   ·have := I.Can.len ha hb.1 (by omega); omega
  rw [cmpZ_gt (by omega), cmpZ_gt h2]
theorem cmp_at {a b : List Int} (da : I.Dig a) (db : I.Dig b) {k : Nat} {x y : Int} (hx : a[k]? = some x) (hy : b[k]? = some y) (h : a.drop (k + 1) = b.drop (k + 1)) (hne : x ≠ y) : cmpZ x y = cmpZ (I.val a) (I.val b) := by
 have ka := (List.getElem?_eq_some_iff.1 hx).1
 have kb := (List.getElem?_eq_some_iff.1 hy).1
 have e1 := I.val_split a (k := k) (by omega)
 have e2 := I.val_split b (k := k) (by omega)
 rw [I.val_drop_succ hx, h] at e1
 rw [I.val_drop_succ hy] at e2
 have b1 := I.val_lt (da.take k)
 have b2 := I.val_lt (db.take k)
 have c1 := I.val_nonneg (da.take k)
 have c2 := I.val_nonneg (db.take k)
 rw [List.length_take, Nat.min_eq_left (by omega)] at b1 b2
 have hp := I.pw_pos k
 generalize I.pw k = p at *
 generalize I.val (b.drop (k + 1)) = t at *
 by_cases h1 : x < y
 ·rw [cmpZ_lt h1, cmpZ_lt]
  have h2 : p * (x + 1) ≤ p * y := Int.mul_le_mul_of_nonneg_left (by omega) (by omega)
  grind
 ·rw [cmpZ_gt (by omega), cmpZ_gt]
  have h2 : p * (y + 1) ≤ p * x := Int.mul_le_mul_of_nonneg_left (by omega) (by omega)
  grind
end Go.Proofs.YtnpdpjfdgialeaaGreatDoor
namespace Go.Proofs.YtnpdpjfdgialeaaGreatDoor
set_option maxHeartbeats 1000000
open Go.RowKit
theorem sg_neg {ng : Bool} {v : Int} (hv : 0 < v) : decide (sg ng v < 0) = ng ∧ ((sg ng v).natAbs : Int) = v := by
 unfold sg
 cases ng <;> simp <;> omega
end Go.Proofs.YtnpdpjfdgialeaaGreatDoor
namespace Go.Proofs.YtnpdpjfdgialeaaGreatDoor
set_option maxHeartbeats 1000000
open Go.RowKit
attribute [local go_sem] run_store_one
set_option linter.unusedVariables false
/-- The sign of a number. -/
def sgnZ (x : Int) : Int := cmpZ x 0
end Go.Proofs.YtnpdpjfdgialeaaGreatDoor
namespace Go.Proofs.YtnpdpjfdgialeaaGreatDoor
set_option maxHeartbeats 1000000
open Go.RowKit
set_option linter.unusedVariables false
attribute [local go_sem] run_store_one
end Go.Proofs.YtnpdpjfdgialeaaGreatDoor
namespace Go.Proofs.YtnpdpjfdgialeaaGreatDoor
set_option maxHeartbeats 4000000
open Go.RowKit
attribute [local go_sem] run_store_one
set_option linter.unusedVariables false
end Go.Proofs.YtnpdpjfdgialeaaGreatDoor

namespace Go.Proofs.YtnpdpjfdgialeaaGreatDoor
set_option maxHeartbeats 2000000
open Go.RowKit
attribute [local go_sem] run_store_one
set_option linter.unusedVariables false
end Go.Proofs.YtnpdpjfdgialeaaGreatDoor

namespace Go.Proofs.YtnpdpjfdgialeaaGreatDoor
set_option maxHeartbeats 1000000
open Go.RowKit
/-- The first digit less a borrow. -/
def decH (c : Int) : List Int → List Int
 | [] => []
 | d :: t => (d - c) :: t
theorem decH_zero (l : List Int) : decH 0 l = l := by cases l <;> simp [decH]
end Go.Proofs.YtnpdpjfdgialeaaGreatDoor
namespace Go.Proofs.YtnpdpjfdgialeaaGreatDoor
set_option maxHeartbeats 2000000
open Go.RowKit
attribute [local go_sem] run_store_one
set_option linter.unusedVariables false
end Go.Proofs.YtnpdpjfdgialeaaGreatDoor
namespace Go.Proofs.YtnpdpjfdgialeaaGreatDoor
set_option maxHeartbeats 4000000
open Go.RowKit
attribute [local go_sem] run_store_one
set_option linter.unusedVariables false
theorem sg_nat {x : Int} : sg (decide (x < 0)) (x.natAbs : Int) = x := by
 unfold sg
 by_cases h : x < 0 <;> simp [h] <;> omega
theorem sg_not {x : Int} : sg (!decide (x < 0)) (x.natAbs : Int) = -x := by
 unfold sg
 by_cases h : x < 0 <;> simp [h] <;> omega
end Go.Proofs.YtnpdpjfdgialeaaGreatDoor
