/-
 THE ENGINE, 6: every operation that the engine knows does what its word says.
-/
import Derived.Test.YtcfejkpadcccbaaGreatEnE
namespace Go.Proofs.YtcfejkpadcccbaaGreat.E
open Go.RowKit
set_option linter.unusedVariables false
set_option linter.unusedSimpArgs false
section
variable {s : Bool} {B : Nat} {M : Nat → Prop} {h : Nat → HO} {m m' : Nat → Option Value} {w w' : World} {A A' : Nat → Prop} {P : Program} {σ : St} {a : Act} {o : Oper} {sc : List (Fa s P)} {r : R s P}
theorem Post.same (K : Ok s B M h m w) {u : Value} {v : V} (hr : Rep s w (Av M h m) m u v) : Post s B M h m w [] v u w := ⟨m, K, hr, Mo.refl, Below.refl _ _, fun b hb => .inl hb⟩
/-- What says nothing of names may be said among any. -/
theorem Mo.up : Mo s w A E.no w A m := ⟨Nat.le_refl _, fun _ _ _ => rfl, fun _ e => .inl e, fun _ _ e => by simp [E.no] at e, fun _ => Kp.refl _⟩
theorem looks_of {o : Oper} {t : Nat} (h : Operand.tmp t ∈ o.op.operands.toList) : t ∈ looks o := List.mem_filterMap.2 ⟨_, h, rfl⟩
/-- What is asked of the operands of an operation. -/
def Opd (s : Bool) (w : World) (A : Nat → Prop) (m : Nat → Option Value) (o : Oper) (a : Act) (σ : St) : Prop := ∀ t ∈ looks o, Rep s w A m (a.eval (.tmp t)) (σ.t.getD t .un)
theorem Opd.ev (H : Opd s w A m o a σ) {x : Operand} (hx : x ∈ o.op.operands.toList) : Rep s w A m (a.eval x) (σ.ev x) := ev_rep fun t e => H t (looks_of (by subst e; exact hx))
theorem Opd.evT (H : Opd s w A m o a σ) {x : Operand} {T : TypeId} (hx : x ∈ o.op.operands.toList) : Rep s w A m (a.eval x) (σ.evT P T x) := evT_rep fun t e => H t (looks_of (by subst e; exact hx))
abbrev Goal_ (s : Bool) (B : Nat) (M : Nat → Prop) (P : Program) (o : Oper) (a : Act) (h : Nat → HO) (m : Nat → Option Value) (w : World) (r : R s P) : Prop := Exec P o a w (Post s B M h m w r.ws r.v)
theorem Exec.val {u : Value} {Q : Value → World → Prop} (e : (execOp a.eval o).run P w = .ok (.value u) w') (q : Q u w') : Exec P o a w Q := .inl ⟨u, w', e, q⟩
theorem move_ok (K : Ok s B M h m w) {x : Operand} (ho : o.op = .move x ∨ o.op = .assign x) (e : some (⟨σ.evT P o.type x, [], [], sc, []⟩ : R s P) = some r) (H : Opd s w (Av M h m) m o a σ) : Goal_ s B M P o a h m w r := by
 injection e with e
 subst e
 have hx : x ∈ o.op.operands.toList := by rcases ho with ho | ho <;> simp [ho, Op.operands]
 refine Exec.val (u := a.eval x) (w' := w) ?_ (.same K (H.evT hx))
 rcases ho with ho | ho <;> simp [execOp, ho]
theorem pick_ok (K : Ok s B M h m w) {c x y : Operand} (ho : o.op = .pick c x y) (e : aop s P o σ sc = some r) (H : Opd s w (Av M h m) m o a σ) : Goal_ s B M P o a h m w r := by
 simp only [aop, ho] at e
 have hc := H.ev (x := c) (by simp [ho, Op.operands])
 split at e
 · rename_i t ht
   injection e with e
   subst e
   rw [ht] at hc
   have hc := Rep.k_inv hc
   refine Exec.val (u := if t = true then a.eval x else a.eval y) (w' := w) (by simp [execOp, ho, hc, asBool]) (.same K ?_)
   cases t
   · exact H.evT (by simp [ho, Op.operands])
   · exact H.evT (by simp [ho, Op.operands])
 · cases e
theorem new_bx (K : Ok s B M h m w) {b T : Nat} {cs : Array Value} {l : List V} (hd : h b = .dead) (hm : m b = none) (hs : cs.size = l.length) (hr : ∀ j x, l[j]? = some x → Rep s w (Av M h m) m (cs.getD j undef) x) :
  Post s B M h m w [(b, .bx T l)] (.lp b 0) (.pointer (some ⟨w.heap.size, 0, none⟩)) (w.alloc (.cells cs T)) := by
 have hb : Below w.heap.size w (w.alloc (.cells cs T)) := (Below.refl _ _).alloc (Nat.le_refl _) _
 have hu : ∀ g, E.blk (.pointer (some ⟨w.heap.size, 0, none⟩)) = some g → w.heap.size ≤ g := fun g e => by simp only [E.blk, Option.some.injEq] at e; omega
 refine ⟨upd m b (some (.pointer (some ⟨w.heap.size, 0, none⟩))), K.new hd hm hu hb (fun U l' e => ?_) (fun U z' l' e => by cases e) (fun l' e => by cases e), .lp _ b 0 _ upd_eq, .new hd hm hu hb, hb.mono K.bs, fun c hc => ?_⟩
 · injection e with e1 e2
   subst e1; subst e2
   exact ⟨_, cs, rfl, by show (w.heap.push _)[w.heap.size]? = _; simp, hs, hr⟩
 · by_cases e : c = b
   · subst e; exact .inr (by simp)
   · rw [upd_ne e] at hc; exact .inl hc
theorem alloc_ok (K : Ok s B M h m w) {T : TypeId} (ho : o.op = .alloc T) (e : aop s P o σ sc = some r) (hn : ∀ b ∈ r.ws.map (·.1), σ.h.length ≤ b → h b = .dead ∧ m b = none) : Goal_ s B M P o a h m w r := by
 simp only [aop, ho] at e
 split at e
 · rename_i z l hz
   injection e with e
   subst e
   obtain ⟨h1, h2, h3⟩ := zero_ok (s := s) (w := w) (A := Av M h m) (m := m) hz
   obtain ⟨hd, hm⟩ := hn σ.h.length (by simp) (Nat.le_refl _)
   refine Exec.val ?_ (new_bx K hd hm h2 h3)
   simp [execOp, ho, Instr.alloc, h1, newVar, newRow]
 · cases e
theorem box_ok (K : Ok s B M h m w) {T : TypeId} {x : Operand} (ho : o.op = .box T x) (e : aop s P o σ sc = some r) (H : Opd s w (Av M h m) m o a σ) (hn : ∀ b ∈ r.ws.map (·.1), σ.h.length ≤ b → h b = .dead ∧ m b = none) : Goal_ s B M P o a h m w r := by
 simp only [aop, ho] at e
 split at e
 · rename_i hc
   injection e with e
   subst e
   obtain ⟨h2, h3, _⟩ := ce_rep (H.evT (P := P) (T := T) (x := x) (by simp [ho, Op.operands])) hc
   obtain ⟨hd, hm⟩ := hn σ.h.length (by simp) (Nat.le_refl _)
   refine Exec.val ?_ (new_bx K hd hm h2 h3)
   simp [execOp, ho, Instr.box, newVar, newRow]
 · cases e
/-- An element of a row of the call's own. -/
theorem row_cell {e z n : Nat} {v : Value} {xs : List Value} (h : w.ownsRow B e z v n xs) {g k c : Nat} (hv : v = .slice (some ⟨g, 0, none⟩) k c) {j : Nat} {u : Value} (hu : xs[j]? = some u) : w.cell? ⟨g, j, none⟩ = some u := by
 subst hv
 have := h.cells (g := g) rfl j u hu
 rwa [Addr.add_lit, Nat.zero_add] at this
theorem load_ok' (K : Ok s B M h m w) {T : TypeId} {x : Operand} (ho : o.op = .load T x) (e : aop s P o σ sc = some r) (hk : ∀ p ∈ r.ks, p.1 = p.2) (H : Opd s w (Av M h m) m o a σ) (hh : ∀ b ∈ r.rd, h b = σ.ho b) : Goal_ s B M P o a h m w r := by
 simp only [aop, ho] at e
 split at e
 · rename_i n hn
   have hx := H.ev (x := x) (by simp [ho, Op.operands])
   have key : ∀ (l : List V) (v : V) (rd : List Nat) (sc : List (Fa s P)) (ks : Ks) b off, pack P T l = some v → a.eval x = .pointer (some ⟨b, off, none⟩) → (∀ j y, l[j]? = some y → ∃ u, w.cell? ⟨b, off + j, none⟩ = some u ∧ Rep s w (Av M h m) m u y) → Goal_ s B M P o a h m w ⟨v, [], rd, sc, ks⟩ := by
    intro l v rd sc ks b off hv ev hc
    obtain ⟨u, h1, h2⟩ := load_ok (P := P) hv hc
    refine Exec.val (u := u) (w' := w) ?_ (.same K h2)
    simp [execOp, ho, Instr.loadAt, ev, Instr.sureAddr, h1]
   split at e
   · rename_i b z i off hxe
     rw [hxe] at hx
     generalize hu : a.eval x = u at hx
     split at e
     · rename_i U z' l l0 i0 cs hf sc' hb
       split at e
       · rename_i v hcs hv
         injection e with e
         subst e
         have hkey := hk _ (List.mem_singleton.2 rfl)
         simp only [List.cons.injEq, V.sl.injEq, V.k.injEq, Value.int.injEq, true_and, and_true] at hkey
         obtain ⟨rfl, hi⟩ := hkey
         have hi : i = i0 := by omega
         subst hi
         have hcs := Nat.eq_of_beq_eq_true hcs
         subst hcs
         obtain ⟨v', xs, h1, h2, h3, h4, h5⟩ := K.rw b U z' l ((hh b (by simp)).trans hb)
         cases hx with
         | rp _ _ _ _ _ g k c hg =>
           rw [h1] at hg
           injection hg with hg
           refine key _ _ _ _ _ _ _ hv hu fun j y hy => ?_
           rw [List.getElem?_take] at hy
           split at hy
           · rw [List.getElem?_drop] at hy
             have h6 := flat_get h2 hf hy
             have h7 := h5 _ y h6
             have h8 : i * z' + (off + j) < xs.length := by
              have := (List.getElem?_eq_some_iff.1 h6).1
              rw [flat_len h2] at this
              rw [h3.1]; exact this
             refine ⟨xs.getD (i * z' + (off + j)) undef, ?_, h7.mo Mo.up⟩
             rw [Nat.add_assoc]
             refine row_cell h3 hg ?_
             rw [List.getD_eq_getElem?_getD, List.getElem?_eq_getElem h8]
             rfl
           · cases hy
       · cases e
     · rename_i l l0 i0 z0 hf sc' hb
       split at e
       · rename_i v hcs hv
         injection e with e
         subst e
         have hkey := hk _ (List.mem_singleton.2 rfl)
         simp only [List.cons.injEq, V.dg.injEq, V.k.injEq, Value.int.injEq, true_and, and_true] at hkey
         obtain ⟨rfl, hi⟩ := hkey
         have hi : i = i0 := by omega
         subst hi
         simp only [Bool.and_eq_true] at hcs
         have hz := Nat.eq_of_beq_eq_true hcs.1
         have ho' := Nat.eq_of_beq_eq_true hcs.2
         subst hz; subst ho'
         obtain ⟨v', h1, h3⟩ := K.ri b l ((hh b (by simp)).trans hb)
         cases hx with
         | rp _ _ _ _ _ g k c hg =>
           rw [h1] at hg
           injection hg with hg
           refine key _ _ _ _ _ _ _ hv hu fun j y hy => ?_
           cases j with
           | zero =>
             simp at hy; subst hy
             refine ⟨_, ?_, .k _ _⟩
             simp only [Nat.mul_one, Nat.add_zero]
             exact row_cell h3 hg (il_at l hf)
           | succ j => simp at hy
       · cases e
     · cases e
   · split at e
     · rename_i l rd hl
       split at e
       · rename_i v hv
         injection e with e
         subst e
         unfold cellsAt at hl
         split at hl
         · rename_i b off hxe
           split at hl
           · rename_i U l' hb
             simp only [Option.some.injEq, Prod.mk.injEq] at hl
             obtain ⟨rfl, rfl⟩ := hl
             rw [hxe] at hx
             generalize hu : a.eval x = u at hx
             cases hx with
             | lp _ _ _ g hg =>
               obtain ⟨g', cs, h1, h2, h3, h4, h5⟩ := K.bx b U l' ((hh b (by simp)).trans hb)
               rw [h1] at hg
               injection hg with hg
               injection hg with hg
               injection hg with hg
               injection hg with hg
               subst hg
               refine key _ _ _ _ _ _ _ hv hu fun j y hy => ?_
               rw [List.getElem?_take] at hy
               split at hy
               · rw [List.getElem?_drop] at hy
                 have hlt := (List.getElem?_eq_some_iff.1 hy).1
                 have h6 := h5 (off + j) y hy
                 refine ⟨_, ?_, h6⟩
                 have : off + j < cs.size := by omega
                 simp [World.cell?, h3, Array.getD_eq_getD_getElem?, Array.getElem?_eq_getElem this]
               · cases hy
           · cases hl
         · rename_i l' hxe
           simp only [Option.some.injEq, Prod.mk.injEq] at hl
           obtain ⟨rfl, rfl⟩ := hl
           rw [hxe] at hx
           generalize hu : a.eval x = u at hx
           cases hx with
           | ip _ b off _ us h3 h4 h5 h6 =>
             refine key _ _ _ _ _ _ _ hv hu fun j y hy => ?_
             rw [List.getElem?_take] at hy
             split at hy
             · exact ⟨us j, h5 j y hy, (h6 j y hy).mo Mo.up⟩
             · cases hy
         · rename_i z hxe
           simp only [Option.some.injEq, Prod.mk.injEq] at hl
           obtain ⟨rfl, rfl⟩ := hl
           rw [hxe] at hx
           generalize hu : a.eval x = u at hx
           cases hx with
           | dp _ b off _ cs fr h1 h2 h3 =>
             refine key _ _ _ _ _ _ _ hv hu fun j y hy => ?_
             cases j with
             | zero => simp at hy; subst hy; exact ⟨_, h2, .k _ _⟩
             | succ j => simp at hy
         · cases hl
       · cases e
     · cases e
 · cases e
theorem fOff_run {T f n : Nat} {F : TypeId} (e : fOff P T f = some (n, F)) : ∃ fs fd k, P.underlying T = some (.struct fs) ∧ fs[f]? = some fd ∧ fd.type = F ∧ fd.offset = n ∧ szT P F = some (k + 1) := by
 unfold fOff at e
 split at e
 · rename_i fs hd
   split at e
   · rename_i fd hf
     split at e
     · rename_i k hk
       simp only [Option.some.injEq, Prod.mk.injEq] at e
       obtain ⟨rfl, rfl⟩ := e
       exact ⟨fs, fd, k, hd, hf, rfl, rfl, hk⟩
     · cases e
   · cases e
 · cases e
theorem fieldAddr_ok (K : Ok s B M h m w) {T : TypeId} {x : Operand} {f : Nat} (ho : o.op = .fieldAddr T x f) (e : aop s P o σ sc = some r) (H : Opd s w (Av M h m) m o a σ) : Goal_ s B M P o a h m w r := by
 simp only [aop, ho] at e
 split at e
 · rename_i n F hf
   obtain ⟨fs, fd, k, f1, f2, f3, f4, f5⟩ := fOff_run hf
   have hx := H.ev (x := x) (by simp [ho, Op.operands])
   have hrun : ∀ g off, a.eval x = .pointer (some ⟨g, off, none⟩) → (execOp a.eval o).run P w = .ok (.value (.pointer (some ⟨g, off + n, none⟩))) w := by
    intro g off hu
    subst f3; subst f4
    simp [execOp, ho, Instr.fieldAt, run_under f1, f2, hu, Instr.sureAddr, fieldPlace, run_size f5, Addr.add_lit]
   split at e
   · rename_i b off hxe
     injection e with e
     subst e
     rw [hxe] at hx
     generalize hu : a.eval x = u at hx
     cases hx with
     | lp _ _ _ g hg => exact Exec.val (hrun _ _ hu) (.same K (.lp _ _ _ _ hg))
   · rename_i l hxe
     injection e with e
     subst e
     rw [hxe] at hx
     generalize hu : a.eval x = u at hx
     cases hx with
     | ip _ b off _ us h3 h4 h5 h6 =>
       refine Exec.val (hrun _ _ hu) (.same K (.ip _ _ _ _ (fun j => us (n + j)) h3 h4 (fun j y hy => ?_) fun j y hy => ?_))
       · rw [List.getElem?_drop] at hy
         rw [Nat.add_assoc]
         exact h5 _ y hy
       · rw [List.getElem?_drop] at hy
         exact h6 _ y hy
   · rename_i b z i off hxe
     injection e with e
     subst e
     rw [hxe] at hx
     generalize hu : a.eval x = u at hx
     cases hx with
     | rp _ _ _ _ _ g n' c hg =>
       have := hrun _ _ hu
       rw [Nat.add_assoc] at this
       exact Exec.val this (.same K (.rp _ _ _ _ _ _ _ _ hg))
   · cases e
 · cases e
/-- A part of known cells. -/
theorem part_ok {F : TypeId} {cs : Array Value} {l : List V} {n k : Nat} {v : V} (hs : cs.size = l.length) (hr : ∀ j x, l[j]? = some x → Rep s w A m (cs.getD j undef) x) (hk : szT P F = some k) (hp : pack P F ((l.drop n).take k) = some v) :
  ∃ u, (part F cs n).run P w = .ok u w ∧ Rep s w A m u v := by
 unfold pack at hp
 rw [hk] at hp
 simp only at hp
 split at hp
 · rename_i hlen
   have hlen := Nat.eq_of_beq_eq_true hlen
   rw [List.length_take, List.length_drop] at hlen
   have hagg : ∀ d, P.underlying F = some d → ((∃ f, d = .struct f) ∨ ∃ k e, d = .array k e) → ∃ u, (part F cs n).run P w = .ok u w ∧ Rep s w A m u (.ag ((l.drop n).take k)) := by
    intro d hd hda
    refine ⟨.agg (cs.extract n (n + k)), ?_, .ag _ _ _ ?_ fun j x hx => ?_⟩
    · rcases hda with ⟨f, rfl⟩ | ⟨k', e, rfl⟩ <;> simp [part, isAgg, run_under hd, run_size hk]
    · rw [Array.size_extract, List.length_take, List.length_drop, hs]
      omega
    · rw [List.getElem?_take] at hx
      split at hx
      · rename_i hj
        rw [List.getElem?_drop] at hx
        have hlt := (List.getElem?_eq_some_iff.1 hx).1
        have := hr _ x hx
        rw [Array.getD_eq_getD_getElem?] at this ⊢
        rw [Array.getElem?_extract, if_pos (by omega)]
        exact this
      · cases hx
   split at hp
   · rename_i f hd
     injection hp with hp
     subst hp
     exact hagg _ hd (.inl ⟨f, rfl⟩)
   · rename_i k' e hd
     injection hp with hp
     subst hp
     exact hagg _ hd (.inr ⟨k', e, rfl⟩)
   · rename_i d hn1 hn2 hd
     split at hp
     · rename_i x hx
       injection hp with hp
       subst hp
       have h0 : ((l.drop n).take k)[0]? = some x := by rw [hx]; rfl
       rw [List.getElem?_take] at h0
       split at h0
       · rw [List.getElem?_drop, Nat.add_zero] at h0
         have hlt := (List.getElem?_eq_some_iff.1 h0).1
         have h1 : cs[n]? = some cs[n] := Array.getElem?_eq_getElem (by omega)
         have h2 := hr n x h0
         rw [Array.getD_eq_getD_getElem?, h1] at h2
         refine ⟨cs[n], ?_, h2⟩
         have hagg : (isAgg F).run P w = .ok false w := by
          simp only [isAgg, Sem.run_bind, run_under hd, Result.andThen_ok]
          rfl
         simp only [part, Sem.run_bind, hagg, Result.andThen_ok, Bool.false_eq_true, if_false, h1]
         rfl
       · cases h0
     · cases hp
   · cases hp
 · cases hp
theorem field_ok (K : Ok s B M h m w) {T : TypeId} {x : Operand} {f : Nat} (ho : o.op = .field T x f) (e : aop s P o σ sc = some r) (H : Opd s w (Av M h m) m o a σ) : Goal_ s B M P o a h m w r := by
 simp only [aop, ho] at e
 split at e
 · rename_i n F hf
   obtain ⟨fs, fd, k, f1, f2, f3, f4, f5⟩ := fOff_run hf
   have hx := H.ev (x := x) (by simp [ho, Op.operands])
   split at e
   · rename_i l k' hxe hk
     split at e
     · rename_i v hv
       injection e with e
       subst e
       rw [hxe] at hx
       generalize hu : a.eval x = u at hx
       cases hx with
       | ag _ cs _ h1 h2 =>
         obtain ⟨u, h3, h4⟩ := part_ok (P := P) h1 h2 hk hv
         refine Exec.val (u := u) (w' := w) ?_ (.same K h4)
         subst f3; subst f4
         simp [execOp, ho, Instr.field, run_under f1, f2, hu, asAgg, h3]
     · cases e
   · cases e
 · cases e
theorem build_ok (K : Ok s B M h m w) {T : TypeId} {ps : Array (Nat × Operand)} (ho : o.op = .build T ps) (e : aop s P o σ sc = some r) (H : Opd s w (Av M h m) m o a σ) : Goal_ s B M P o a h m w r := by
 simp only [aop, ho] at e
 split at e
 · rename_i z zl pl hz hpl
   split at e
   · rename_i l hl
     injection e with e
     subst e
     obtain ⟨h1, h2, h3⟩ := zero_ok (s := s) (w := w) (A := Av M h m) (m := m) hz
     obtain ⟨cs', g1, g2, g3⟩ := fill_ok (s := s) (w := w) (A := Av M h m) (m := m) (ps.toList.map fun x => (x.1, σ.ev x.2)) (ps.toList.map fun x => (x.1, a.eval x.2)) zl z.cells l hl h2 h3 (by simp) (fun i p u hp hu => by
      simp only [List.getElem?_map, Option.map_eq_some_iff] at hp hu
      obtain ⟨q, hq, rfl⟩ := hp
      obtain ⟨q', hq', rfl⟩ := hu
      rw [hq] at hq'
      injection hq' with hq'
      subst hq'
      exact ⟨rfl, H.ev (by rw [ho]; simp only [Op.operands, List.mem_map]; exact ⟨q, List.mem_of_getElem? hq, rfl⟩)⟩)
     refine Exec.val (u := .agg cs') (w' := w) ?_ (.same K (.ag _ cs' l g2 g3))
     unfold places at hpl
     split at hpl
     · rename_i fs hd
       split at hpl
       · rename_i q hq
         injection hpl with hpl
         subst hpl
         have hq' := pureRun_run hq w
         simp only [bind_pure_comp] at hq'
         simp [execOp, ho, Instr.build, h1, run_under hd, hq', Array.toList_map, g1]
       · cases hpl
     · rename_i k e' hd
       split at hpl
       · rename_i n hn
         injection hpl with hpl
         subst hpl
         simp [execOp, ho, Instr.build, h1, run_under hd, run_size hn, Array.toList_map, g1]
       · cases hpl
     · cases hpl
   · cases e
 · cases e
theorem kv_ok {x : Operand} (hx : Rep s w A m (a.eval x) (σ.ev x)) (hk : isK (σ.ev x) = true) : a.eval x = kv (σ.ev x) := by
 generalize σ.ev x = v at hx hk
 cases v <;> simp [isK] at hk
 exact Rep.k_inv hx
theorem purely_ok (K : Ok s B M h m w) {xs : List Operand} (e : purely s P o σ xs sc = some r) (H : ∀ x ∈ xs, Rep s w (Av M h m) m (a.eval x) (σ.ev x)) (hq : ∀ ρ ρ' : Operand → Value, (∀ x ∈ xs, ρ x = ρ' x) → execOp ρ o = execOp ρ' o) : Goal_ s B M P o a h m w r := by
 unfold purely at e
 split at e
 · rename_i hk
   rw [List.all_eq_true] at hk
   split at e
   · rename_i z hz
     injection e with e
     subst e
     refine Exec.val (u := z) (w' := w) ?_ (.same K (cV_rep z))
     rw [hq a.eval (fun x => kv (σ.ev x)) fun x hx => kv_ok (H x hx) (hk x hx)]
     exact pureRun_run hz w
   · cases e
 · cases e
theorem extract_ok (K : Ok s B M h m w) {x : Operand} {i : Nat} (ho : o.op = .extract x i) (e : aop s P o σ sc = some r) (H : Opd s w (Av M h m) m o a σ) : Goal_ s B M P o a h m w r := by
 simp only [aop, ho] at e
 have hx := H.ev (x := x) (by simp [ho, Op.operands])
 split at e
 · rename_i l hxe
   split at e
   · rename_i v hv
     injection e with e
     subst e
     rw [hxe] at hx
     generalize hu : a.eval x = u at hx
     cases hx with
     | tu _ cs _ h1 h2 =>
       have hlt := (List.getElem?_eq_some_iff.1 hv).1
       have h3 : cs[i]? = some cs[i] := Array.getElem?_eq_getElem (by omega)
       have h4 := h2 i v hv
       rw [Array.getD_eq_getD_getElem?, h3] at h4
       refine Exec.val (u := cs[i]) (w' := w) ?_ (.same K h4)
       simp [execOp, ho, Instr.extract, hu, h3]
   · cases e
 · cases e
theorem arr_ok (K : Ok s B M h m w) {T e n : Nat} {k : IntKind} {z : Int} {x i : Operand} (ho : o.op = .indexAddr T x i) (hd : P.underlying T = some (.array n e)) (hi : a.eval i = .int k z) (er : arrV e n z (σ.ev x) sc = some r) (H : Opd s w (Av M h m) m o a σ) : Goal_ s B M P o a h m w r := by
 unfold arrV at er
 split at er
 · rename_i q hq hz
   simp only [Bool.and_eq_true, decide_eq_true_eq] at hz
   have hx := H.ev (x := x) (by simp [ho, Op.operands])
   have hrun : ∀ g off, a.eval x = .pointer (some ⟨g, off, none⟩) → (execOp a.eval o).run P w = .ok (.value (.pointer (some ⟨g, off + z.toNat * q, none⟩))) w := by
    intro g off hu
    simp [execOp, ho, Instr.indexAt, run_under hd, hu, hi, asIntOf, Instr.sureAddr, hz.1, hz.2, run_size hq, Addr.add_lit]
   split at er
   · rename_i b off hxe
     injection er with er
     subst er
     rw [hxe] at hx
     generalize hu : a.eval x = u at hx
     cases hx with
     | lp _ _ _ g hg => exact Exec.val (hrun _ _ hu) (.same K (.lp _ _ _ _ hg))
   · rename_i l hxe
     injection er with er
     subst er
     rw [hxe] at hx
     generalize hu : a.eval x = u at hx
     cases hx with
     | ip _ b off _ us h3 h4 h5 h6 =>
       refine Exec.val (hrun _ _ hu) (.same K (.ip _ _ _ _ (fun j => us (z.toNat * q + j)) h3 h4 (fun j y hy => ?_) fun j y hy => ?_))
       · rw [List.getElem?_drop] at hy
         rw [Nat.add_assoc]
         exact h5 _ y hy
       · rw [List.getElem?_drop] at hy
         exact h6 _ y hy
   · rename_i b k' i' off hxe
     injection er with er
     subst er
     rw [hxe] at hx
     generalize hu : a.eval x = u at hx
     cases hx with
     | rp _ _ _ _ _ g n' c hg =>
       have := hrun _ _ hu
       rw [Nat.add_assoc] at this
       exact Exec.val this (.same K (.rp _ _ _ _ _ _ _ _ hg))
   · cases er
 · cases er
theorem indexAddr_ok (K : Ok s B M h m w) {T : TypeId} {x i : Operand} (ho : o.op = .indexAddr T x i) (e : aop s P o σ sc = some r) (hk : ∀ p ∈ r.ks, p.1 = p.2) (H : Opd s w (Av M h m) m o a σ) (hr : ∀ b ∈ r.rd, h b = σ.ho b) : Goal_ s B M P o a h m w r := by
 simp only [aop, ho] at e
 have hx := H.ev (x := x) (by simp [ho, Op.operands])
 have hi := H.ev (x := i) (by simp [ho, Op.operands])
 split at e
 · rename_i el l k z l0 i0 cs hf sc' hd hxe hie
   split at e
   · rename_i n hn
     split at e
     · rename_i hcs
       have hcs := Nat.eq_of_beq_eq_true hcs
       injection e with e
       subst e
       have hkey := hk _ (List.mem_singleton.2 rfl)
       simp only [List.cons.injEq, V.sl.injEq, V.k.injEq, Value.int.injEq, true_and, and_true] at hkey
       obtain ⟨rfl, rfl⟩ := hkey
       rw [hxe] at hx
       rw [hie] at hi
       have hi := Rep.k_inv hi
       generalize hu : a.eval x = u at hx
       cases hx with
       | sl _ ad b off c zz _ us h1 h2 h3 h4 h5 h6 =>
         have hlt := (List.getElem?_eq_some_iff.1 hf).1
         obtain ⟨rfl, hA, hB⟩ := h3 (by omega)
         have hz := h4 cs (List.mem_of_getElem? hf)
         rw [hcs] at hz
         subst hz
         refine Exec.val (u := .pointer (some ⟨b, off + i0 * n, none⟩)) (w' := w) ?_ (.same K (.ip _ b (off + i0 * n) cs (us i0) hA hB (fun j y hy => h5 i0 j cs y hf hy) fun j y hy => h6 i0 j cs y hf hy))
         simp [execOp, ho, Instr.indexAt, hu, hi, asIntOf, run_under hd, run_size hn, hlt, Addr.add_lit]
     · cases e
   · cases e
 · rename_i el l k z l0 i0 x0 hf sc' hd hxe hie
   split at e
   · rename_i hn
     injection e with e
     subst e
     have hkey := hk _ (List.mem_singleton.2 rfl)
     simp only [List.cons.injEq, V.dg.injEq, V.k.injEq, Value.int.injEq, true_and, and_true] at hkey
     obtain ⟨rfl, rfl⟩ := hkey
     rw [hxe] at hx
     rw [hie] at hi
     have hi := Rep.k_inv hi
     generalize hu : a.eval x = u at hx
     cases hx with
     | dg _ _ _ hl hg =>
       have hlt := (List.getElem?_eq_some_iff.1 hf).1
       obtain ⟨A, n, c, rfl, h2, h3, h4, h5, h6⟩ := hl
       obtain ⟨b, off, cs, fr, rfl, hc⟩ := h6 (by omega)
       obtain ⟨b', o', e1, hb', hcell⟩ := h5 (by simp; omega)
       injection e1 with e1
       injection e1 with e1 e2
       subst e1; subst e2; subst h2
       have h7 := hcell i0 _ (il_at l hf)
       refine Exec.val (u := .pointer (some ⟨b, off + i0, none⟩)) (w' := w) ?_ (.same K (.dp _ b _ x0 cs fr hc h7 fun e => hg e (by omega) b rfl))
       simp [execOp, ho, Instr.indexAt, hu, hi, asIntOf, run_under hd, run_size hn, hlt, Addr.add_lit]
   · cases e
 · rename_i el b k z l0 i0 cs hf sc' hd hxe hie
   split at e
   · rename_i U z' l n hb hn
     split at e
     · rename_i hcs
       have hcs := Nat.eq_of_beq_eq_true hcs
       subst hcs
       injection e with e
       subst e
       have hkey := hk _ (List.mem_singleton.2 rfl)
       simp only [List.cons.injEq, V.sl.injEq, V.k.injEq, Value.int.injEq, true_and, and_true] at hkey
       obtain ⟨rfl, rfl⟩ := hkey
       rw [hxe] at hx
       rw [hie] at hi
       have hi := Rep.k_inv hi
       have hlt := (List.getElem?_eq_some_iff.1 hf).1
       obtain ⟨v', xs, h1, h2, h3, h4, h5⟩ := K.rw b U z' l ((hr b (by simp)).trans hb)
       generalize hu : a.eval x = u at hx
       cases hx with
       | ow _ _ ad n' c' hm' =>
         rw [h1] at hm'
         injection hm' with hm'
         subst hm'
         obtain ⟨g, cap, hv, _⟩ := own_pos h3 (by omega)
         injection hv with e1 e2 e3
         subst e1; subst e2; subst e3
         refine Exec.val (u := .pointer (some ⟨g, i0 * z' + 0, none⟩)) (w' := w) ?_ (.same K (.rp _ b z' i0 0 g _ _ h1))
         simp [execOp, ho, Instr.indexAt, hu, hi, asIntOf, run_under hd, run_size hn, hlt, Addr.add_lit]
     · cases e
   · cases e
 · rename_i el b k z l0 i0 x0 hf sc' hd hxe hie
   split at e
   · rename_i l hb hn
     injection e with e
     subst e
     have hkey := hk _ (List.mem_singleton.2 rfl)
     simp only [List.cons.injEq, V.dg.injEq, V.k.injEq, Value.int.injEq, true_and, and_true] at hkey
     obtain ⟨rfl, rfl⟩ := hkey
     rw [hxe] at hx
     rw [hie] at hi
     have hi := Rep.k_inv hi
     have hlt := (List.getElem?_eq_some_iff.1 hf).1
     obtain ⟨v', h1, h3⟩ := K.ri b l ((hr b (by simp)).trans hb)
     generalize hu : a.eval x = u at hx
     cases hx with
     | ow _ _ ad n' c' hm' =>
       rw [h1] at hm'
       injection hm' with hm'
       subst hm'
       obtain ⟨g, cap, hv, _⟩ := own_pos h3 (by omega)
       injection hv with e1 e2 e3
       subst e1; subst e2; subst e3
       refine Exec.val (u := .pointer (some ⟨g, i0 * 1 + 0, none⟩)) (w' := w) ?_ (.same K (.rp _ b 1 i0 0 g _ _ h1))
       simp [execOp, ho, Instr.indexAt, hu, hi, asIntOf, run_under hd, run_size hn, hlt, Addr.add_lit]
   · cases e
 · rename_i n el k z hd hie
   rw [hie] at hi
   exact arr_ok K ho hd (Rep.k_inv hi) e H
 · cases e
theorem bnd_ok {n : Nat} {x : Option Operand} {i : Int} (hx : ∀ y, x = some y → Rep s w A m (a.eval y) (σ.ev y)) (h : σ.bnd n x = .k (.int .i64 i)) : (x.map a.eval = some (.int .i64 i)) ∨ (x = none ∧ i = n) := by
 cases x with
 | none => simp only [St.bnd, V.k.injEq, Value.int.injEq, true_and] at h; exact .inr ⟨rfl, h.symm⟩
 | some y =>
   have hy := hx y rfl
   simp only [St.bnd] at h
   rw [h] at hy
   exact .inl (by simp [Rep.k_inv hy])
theorem bounds_run {len cap i j : Nat} {lo hi : Option Value} (h1 : i ≤ j) (h2 : j ≤ len) (h3 : len ≤ cap) (hl : lo = some (.int .i64 (i : Int)) ∨ lo = none ∧ i = 0) (hh : hi = some (.int .i64 (j : Int)) ∨ hi = none ∧ j = len) : (Instr.sliceBounds true len cap lo hi none).run P w = .ok (i, j, cap) w := by
 have h4 : j ≤ cap := by omega
 rcases hl with rfl | ⟨rfl, rfl⟩ <;> rcases hh with rfl | ⟨rfl, rfl⟩ <;> simp [Instr.sliceBounds, Instr.sliceBound, asIntOf, h1, h4]
theorem slice_ok (K : Ok s B M h m w) {T : TypeId} {x : Operand} {lo hi mx : Option Operand} (ho : o.op = .slice T x lo hi mx) (e : aop s P o σ sc = some r) (hk : ∀ p ∈ r.ks, p.1 = p.2) (H : Opd s w (Av M h m) m o a σ) (hr : ∀ b ∈ r.rd, h b = σ.ho b) : Goal_ s B M P o a h m w r := by
 cases mx with
 | some y => simp [aop, ho] at e
 | none =>
  simp only [aop, ho] at e
  have hx := H.ev (x := x) (by simp [ho, Op.operands])
  split at e
  · rename_i el l l0 i0 j0 z l' hl' h2 hz sc' hd hxe
    split at e
    · rename_i n hn
      split at e
      · rename_i hcs
        have hcs := Nat.eq_of_beq_eq_true hcs
        subst hcs
        injection e with e
        subst e
        have hkey := hk _ (List.mem_singleton.2 rfl)
        simp only [List.cons.injEq, V.sl.injEq, and_true] at hkey
        obtain ⟨rfl, hlo, hhi⟩ := hkey
        have blo := bnd_ok (fun y hy => H.ev (by simp [ho, Op.operands, hy])) hlo
        have bhi := bnd_ok (fun y hy => H.ev (by simp [ho, Op.operands, hy])) hhi
        rw [hxe] at hx
        generalize hu : a.eval x = u at hx
        cases hx with
        | sl _ ad b off c zz _ us h1 h2' h3 h4 h5 h6 =>
          have hlen : l'.length = j0 - i0 := by rw [← hl']; simp; omega
          have hel : ∀ q cs, l'[q]? = some cs → l[i0 + q]? = some cs := fun q cs hq => by
            rw [← hl', List.getElem?_drop] at hq
            rw [List.getElem?_take] at hq
            split at hq
            · exact hq
            · cases hq
          have hzz : 0 < l'.length → zz = z := fun hp => by
            have h7 := hel 0 _ (List.getElem?_eq_getElem hp)
            have h8 := List.mem_of_getElem? h7
            rw [← h4 _ h8, hz _ h8]
          have hb := bounds_run (P := P) (w := w) h2.1 h2.2 h1 (lo := lo.map a.eval) (hi := hi.map a.eval) (blo.imp id fun g => ⟨by rw [g.1]; rfl, by have := g.2; omega⟩) (bhi.imp id fun g => ⟨by rw [g.1]; rfl, by have := g.2; omega⟩)
          have hrep : Rep s w (Av M h m) m (.slice (if c = i0 then ad else ad.map (·.add (i0 * z))) l'.length (c - i0)) (.sl l') := by
            refine .sl _ _ b (off + i0 * zz) _ zz _ (fun i j => us (i0 + i) j) (by omega) (by omega) (fun hp => ?_) (fun cs hc => ?_) (fun i j cs y hi hj => ?_) (fun i j cs y hi hj => h6 (i0 + i) j cs y (hel i cs hi) hj)
            · obtain ⟨rfl, hA, hB⟩ := h3 (by omega)
              refine ⟨?_, hA, hB⟩
              rw [if_neg (by omega), ← hzz hp]
              simp [Addr.add_lit]
            · obtain ⟨q, hq⟩ := List.getElem?_of_mem hc
              exact h4 cs (List.mem_of_getElem? (hel q cs hq))
            · have := h5 (i0 + i) j cs y (hel i cs hi) hj
              rw [Nat.add_mul] at this
              rwa [show off + i0 * zz + i * zz + j = off + (i0 * zz + i * zz) + j by omega]
          rw [hlen] at hrep
          refine Exec.val (w' := w) ?_ (.same K hrep)
          simp [execOp, ho, Instr.sliceAt, Instr.slice, hu, run_under hd, run_size hn, hb]
      · cases e
    · cases e
  · rename_i el b l0 i0 j0 h2 hp sc' hd hxe
    split at e
    · rename_i U z' l n hb hn
      split at e
      · rename_i hcs
        have hcs := Nat.eq_of_beq_eq_true hcs
        subst hcs
        injection e with e
        subst e
        have hkey := hk _ (List.mem_singleton.2 rfl)
        simp only [List.cons.injEq, V.sl.injEq, and_true] at hkey
        obtain ⟨rfl, hlo, hhi⟩ := hkey
        have blo := bnd_ok (fun y hy => H.ev (by simp [ho, Op.operands, hy])) hlo
        have bhi := bnd_ok (fun y hy => H.ev (by simp [ho, Op.operands, hy])) hhi
        obtain ⟨v', xs, h1, _, h3, _, _⟩ := K.rw b U z' l ((hr b (by simp)).trans hb)
        rw [hxe] at hx
        generalize hu : a.eval x = u at hx
        cases hx with
        | ow _ _ ad n' c' hm' =>
          rw [h1] at hm'
          injection hm' with hm'
          subst hm'
          obtain ⟨g, cap, hv, hcap⟩ := own_pos h3 hp
          injection hv with e1 e2 e3
          subst e1; subst e2; subst e3
          have hbd := bounds_run (P := P) (w := w) h2.1 h2.2 hcap.1 (lo := lo.map a.eval) (hi := hi.map a.eval) (blo.imp id fun g => ⟨by rw [g.1]; rfl, by have := g.2; omega⟩) (bhi.imp id fun g => ⟨by rw [g.1]; rfl, by have := g.2; omega⟩)
          refine Exec.val (w' := w) ?_ (.same K (.os _ b z' i0 j0 g _ _ h1 h2.1 h2.2))
          simp [execOp, ho, Instr.sliceAt, Instr.slice, hu, run_under hd, run_size hn, hbd, Addr.add_lit]
      · cases e
    · cases e
  · cases e
theorem argV_rep : ∀ (xs : List Operand) (Ts : List TypeId), (∀ x ∈ xs, Rep s w A m (a.eval x) (σ.ev x) ∧ ∀ T, Rep s w A m (a.eval x) (σ.evT P T x)) →
  (argV P σ xs Ts).length = xs.length ∧ ∀ (j : Nat) (y : V), (argV P σ xs Ts)[j]? = some y → ∀ x, xs[j]? = some x → Rep s w A m (a.eval x) y
 | [], _, _ => ⟨rfl, fun j y h => by simp [argV] at h⟩
 | x :: r, [], H => by
  obtain ⟨h1, h2⟩ := argV_rep r [] fun x hx => H x (List.mem_cons_of_mem _ hx)
  refine ⟨by simp [argV, h1], fun j y hy z hz => ?_⟩
  cases j with
  | zero =>
    simp only [argV, List.getElem?_cons_zero, Option.some.injEq] at hy hz
    subst hy; subst hz
    exact (H x (List.mem_cons_self ..)).1
  | succ j =>
    simp only [argV, List.getElem?_cons_succ] at hy hz
    exact h2 j y hy z hz
 | x :: r, T :: l, H => by
  obtain ⟨h1, h2⟩ := argV_rep r l fun x hx => H x (List.mem_cons_of_mem _ hx)
  refine ⟨by simp [argV, h1], fun j y hy z hz => ?_⟩
  cases j with
  | zero =>
    simp only [argV, List.getElem?_cons_zero, Option.some.injEq] at hy hz
    subst hy; subst hz
    exact (H x (List.mem_cons_self ..)).2 T
  | succ j =>
    simp only [argV, List.getElem?_cons_succ] at hy hz
    exact h2 j y hy z hz
theorem call_ok (K : Ok s B M h m w) {c : Call} {x : Operand} (ho : o.op = .call c) (hc : c.callee = .value x) (e : aop s P o σ sc = some r) (hk : ∀ p ∈ r.ks, p.1 = p.2) (H : Opd s w (Av M h m) m o a σ)
  (hr : ∀ b ∈ r.rd, h b = σ.ho b) : Goal_ s B M P o a h m w r := by
 simp only [aop, ho, hc] at e
 have hcv := H.ev (x := x) (by rw [ho]; simp [Op.operands, Call.operands, hc])
 have hops : ∀ x ∈ c.args.toList, x ∈ o.op.operands.toList := fun x hx => by
  rw [ho]
  simp only [Op.operands, Call.operands, hc, Array.toList_append]
  exact List.mem_append.2 (.inr hx)
 obtain ⟨v1, v2⟩ := argV_rep (s := s) (w := w) (A := Av M h m) (m := m) (P := P) (σ := σ) (a := a) c.args.toList c.argTypes.toList fun x hx => ⟨H.ev (hops x hx), fun T => H.evT (hops x hx)⟩
 split at e
 · rename_i f caps hcl
   rw [hcl] at hcv
   obtain ⟨cs, hce, hcs, hcr⟩ : ∃ cs : Array Value, a.eval x = .func (.func f) #[] cs ∧ cs.size = caps.length ∧ ∀ j x, caps[j]? = some x → Rep s w (Av M h m) m (cs.getD j undef) x := by
    generalize a.eval x = u at hcv
    cases hcv with
    | cl _ _ cs _ h1 h2 => exact ⟨cs, rfl, h1, h2⟩
   split at e
   · rename_i ds ks f0 ds0 d hp sc' hds
     have main : ∀ (A' : Nat → Prop), (∀ g, A' g → Av M h m g) → (∀ b ∈ ks, h b = σ.ho b ∧ ∀ v g, m b = some v → blk v = some g → ¬ A' g) → (V.cl f [] :: ds = V.cl f0 [] :: ds0) → ∀ ws : List (Nat × HO),
       (∀ u w', Rep s w' A' no u d → Below w.heap.size w w' → Post s B M h m w ws d u w') → Exec P o a w (Post s B M h m w ws d) := by
      intro A' hA hks hkey ws hpost
      simp only [List.cons.injEq, V.cl.injEq, and_true] at hkey
      obtain ⟨rfl, rfl⟩ := hkey
      obtain ⟨k1, k2⟩ := exps_rep (C := fun b => h b = σ.ho b ∧ ∀ v g, m b = some v → blk v = some g → ¬ A' g) (fun x y ks e hc u hr => exp_rep K hA 5 x y ks e hc u hr) _ ds ks hds hks
      have hargs : Reps s w A' no (c.args.map a.eval ++ cs) ds := by
       refine ⟨by rw [k1, List.length_append, v1]; simp [hcs], fun j x hx => ?_⟩
       refine k2 j x hx _ fun y hy => ?_
       rcases Nat.lt_or_ge j (argV P σ c.args.toList c.argTypes.toList).length with hlt | hlt
       · rw [List.getElem?_append_left hlt] at hy
         rw [v1, Array.length_toList] at hlt
         have h1 : c.args.toList[j]? = some c.args[j] := by simp [hlt]
         have h2 := v2 j y hy _ h1
         rw [Array.getD_eq_getD_getElem?, Array.getElem?_append_left (by simpa using hlt), Array.getElem?_map, ← Array.getElem?_toList, h1]
         exact h2
       · rw [List.getElem?_append_right hlt] at hy
         have h2 := hcr _ y hy
         rw [v1, Array.length_toList] at hlt h2
         rw [Array.getD_eq_getD_getElem?, Array.getElem?_append_right (by simpa using hlt)]
         simpa [Array.getD_eq_getD_getElem?] using h2
      have hcall := hp.2 w A' _ (fun g hg => K.av_lt (hA g hg)) hargs
      refine .inr (.inr ⟨f, c.args.map a.eval ++ cs, ?_, hcall.mono fun e w' he => ?_⟩)
      · have := hp.1 (c.args.map a.eval ++ cs) w
        simp [execOp, ho, resolve, hc, hce, Deferred.ofValue, invoke, this]
      · obtain ⟨v, rfl, h1, h2⟩ := he
        exact ⟨v, rfl, hpost v w' h1 h2⟩
     have hlive : ∀ b ∈ ks, σ.ho b ≠ .dead := exps_live (C := fun b => σ.ho b ≠ .dead) (fun x y ks e => exp_live 5 x y ks e) _ ds ks hds
     split at e
     · injection e with e
       subst e
       refine main (Av M h m) (fun g e => e) (fun b hb => by cases hb) (hk _ (List.mem_singleton.2 rfl)) [] fun u w' h1 h2 => ?_
       exact ⟨m, K.call h2, h1.mo Mo.up, .call h2, h2.mono K.bs, fun b hb => .inl hb⟩
     · split at e
       · rename_i hf
         injection e with e
         subst e
         refine main (Av M (upds h (kills ks)) m) (fun g e => ?_) (fun b hb => ⟨hr b hb, fun v g h1 h2 => kills_out K hb (by rw [hr b hb]; exact hlive b hb) h1 h2⟩) (hk _ (List.mem_singleton.2 rfl)) [] fun u w' h1 h2 => ?_
         · have h3 := (Mo.kills (s := s) (M := M) (h := h) (m := m) (w := w) ks).av g e
           rcases h3 with h3 | h3
           · exact h3
           · exact absurd ((Ok.kills K ks).av_lt e) (by omega)
         · exact ⟨m, K.call h2, flat_rep hf h1, .call h2, h2.mono K.bs, fun b hb => .inl hb⟩
       · rename_i hf
         injection e with e
         subst e
         refine main (Av M (upds h (kills ks)) m) (fun g e => ?_) (fun b hb => ⟨hr b hb, fun v g h1 h2 => kills_out K hb (by rw [hr b hb]; exact hlive b hb) h1 h2⟩) (hk _ (List.mem_singleton.2 rfl)) (kills ks) fun u w' h1 h2 => ?_
         · have h3 := (Mo.kills (s := s) (M := M) (h := h) (m := m) (w := w) ks).av g e
           rcases h3 with h3 | h3
           · exact h3
           · exact absurd ((Ok.kills K ks).av_lt e) (by omega)
         · exact ⟨m, (K.kills ks).call h2, h1.mo Mo.up, (Mo.kills ks).trans (.call h2), h2.mono K.bs, fun b hb => .inl hb⟩
   · cases e
 · cases e
theorem len_ok (K : Ok s B M h m w) {c : Call} (ho : o.op = .call c) (hc : c.callee = .builtin .len) (e : aop s P o σ sc = some r) (H : Opd s w (Av M h m) m o a σ) (hr : ∀ b ∈ r.rd, h b = σ.ho b) : Goal_ s B M P o a h m w r := by
 simp only [aop, ho, hc] at e
 split at e
 · rename_i x T ts hargs hts
   have hx := H.ev (x := x) (by rw [ho]; simp [Op.operands, Call.operands, hc, hargs])
   have ha : c.args = #[x] := by apply Array.ext'; exact hargs
   have ht : c.argTypes[0]? = some T := by rw [← Array.getElem?_toList, hts]; rfl
   have hrun : ∀ d n, P.underlying T = some d → (∀ w : World, (Builtin.len_ c.argTypes o.type #[a.eval x]).run P w = .ok (.int .i64 n) w) → Exec P o a w (Post s B M h m w [] (.k (.int .i64 n))) := by
    intro d n hd hl
    refine Exec.val (u := .int .i64 n) (w' := w) ?_ (.same K (.k _ _))
    simp [execOp, ho, resolve, hc, ha, invoke, builtin, hl]
   split at e
   · rename_i el l hd hxe
     injection e with e
     subst e
     rw [hxe] at hx
     generalize hu : a.eval x = u at hx
     refine hrun _ _ hd fun w => ?_
     rw [hu]
     cases hx with
     | sl _ ad b off cap z _ us h1 h2 h3 h4 h5 h6 => simp [Builtin.len_, ht, run_under hd, goInt]
   · rename_i el l hd hxe
     injection e with e
     subst e
     rw [hxe] at hx
     generalize hu : a.eval x = u at hx
     refine hrun _ _ hd fun w => ?_
     rw [hu]
     cases hx with
     | dg _ _ _ hl hg =>
       obtain ⟨A, n, c', rfl, rfl, h3, h4, h5, h6⟩ := hl
       simp [Builtin.len_, ht, run_under hd, goInt]
   · rename_i el i hd hxe
     injection e with e
     subst e
     rw [hxe] at hx
     generalize hu : a.eval x = u at hx
     refine hrun _ _ hd fun w => ?_
     rw [hu]
     cases hx with
     | nl => simp [Builtin.len_, ht, run_under hd, goInt]
   · rename_i el b hd hxe
     have hown : ∀ {U z n : Nat} {v : Value} {xs : List Value}, m b = some v → w.ownsRow B U z v n xs → r = ⟨.k (.int .i64 n), [], [b], sc, []⟩ → Goal_ s B M P o a h m w r := by
      intro U z n v xs h1 h3 e
      subst e
      rw [hxe] at hx
      generalize hu : a.eval x = u at hx
      refine hrun _ _ hd fun w => ?_
      rw [hu]
      cases hx with
      | ow _ _ ad n' c' hm' =>
        rw [h1] at hm'
        injection hm' with hm'
        have : n' = n := by
         rcases h3.2 with ⟨h5, h6⟩ | ⟨g, cap, cur, h5, _⟩
         · rw [hm'] at h5; injection h5 with _ h5; omega
         · rw [hm'] at h5; injection h5
        subst this
        simp [Builtin.len_, ht, run_under hd, goInt]
     split at e
     · rename_i U z' l hb
       injection e with e
       obtain ⟨v', xs, h1, h2, h3, h4, h5⟩ := K.rw b U z' l ((hr b (by subst e; simp)).trans hb)
       exact hown h1 h3 e.symm
     · rename_i l hb
       injection e with e
       obtain ⟨v', h1, h3⟩ := K.ri b l ((hr b (by subst e; simp)).trans hb)
       exact hown h1 h3 e.symm
     · cases e
   · rename_i st hd hxe
     injection e with e
     subst e
     rw [hxe] at hx
     have hx := Rep.k_inv hx
     refine hrun _ _ hd fun w => ?_
     rw [hx]
     simp [Builtin.len_, ht, run_under hd, goInt]
   · cases e
 · cases e
theorem chunks_ok {n : Nat} : ∀ (k : Nat) (l : List V), l.length = k * n → (chunks n k l).length = k ∧ (∀ cs ∈ chunks n k l, cs.length = n) ∧ (chunks n k l).flatten = l
 | 0, l, h => ⟨rfl, fun _ h => by simp [chunks] at h, by simp at h; subst h; rfl⟩
 | k + 1, l, h => by
  rw [Nat.succ_mul] at h
  obtain ⟨h1, h2, h3⟩ := chunks_ok (n := n) k (l.drop n) (by simp; omega)
  refine ⟨by simp [chunks, h1], fun cs hcs => ?_, by simp [chunks, h3]⟩
  simp only [chunks, List.mem_cons] at hcs
  rcases hcs with rfl | hcs
  · simp; omega
  · exact h2 cs hcs
theorem ints_ok : ∀ {ys : List V} {zs : List Int}, ints ys = some zs → ys = zs.map fun z => .k (.int .i64 z)
 | [], zs, h => by simp only [ints, Option.some.injEq] at h; subst h; rfl
 | y :: r, zs, h => by
  unfold ints at h
  split at h
  · rename_i h'; cases h'
  · rename_i z r' h'
    injection h' with h1 h2
    subst h1; subst h2
    split at h
    · rename_i l hl
      injection h with h
      subst h
      rw [ints_ok hl]
      rfl
    · cases h
  · cases h
theorem exps_nil {h0 : Nat → HO} (K : Ok s B M h m w) {n : Nat} {l ys : List V} (e : exps (exp h0 n) l = some (ys, [])) : ys.length = l.length ∧ ∀ (j : Nat) (y : V), ys[j]? = some y → ∀ (u : Value), (∀ x, l[j]? = some x → Rep s w (Av M h m) m u x) → Rep s w (Av M h m) no u y :=
 exps_rep (C := fun b => h b = h0 b ∧ ∀ v g, m b = some v → blk v = some g → ¬ Av M h m g) (fun x y ks e hc u hr => exp_rep K (fun g e => e) n x y ks e hc u hr) l ys [] e (fun b hb => by cases hb)
theorem rep_one {us : List Value} {ys : List V} (hl : us.length = ys.length) (hr : ∀ j y, ys[j]? = some y → Rep s w A m (us.getD j undef) y) (h1 : ys.all one = true) : ∀ u ∈ us, u.oneCell' = true := by
 intro u hu
 obtain ⟨j, hj⟩ := List.mem_iff_getElem?.1 hu
 have hlt := (List.getElem?_eq_some_iff.1 hj).1
 have h2 := hr j ys[j] (List.getElem?_eq_getElem (by omega))
 rw [List.getD_eq_getElem?_getD, hj] at h2
 rw [List.all_eq_true] at h1
 exact one_cell h2 (h1 _ (List.getElem_mem _))
theorem flat_set {z : Nat} {new : List V} (hn : new.length = z) : ∀ {l : List (List V)} {i : Nat} (j : Nat), (∀ cs ∈ l, cs.length = z) → i < l.length → (l.set i new).flatten[j]? = if i * z ≤ j ∧ j < i * z + z then new[j - i * z]? else l.flatten[j]?
 | [], i, j, _, h => by simp at h
 | c :: r, 0, j, hz, _ => by
  have hc := hz c (List.mem_cons_self ..)
  simp only [List.set_cons_zero, List.flatten_cons, Nat.zero_mul, Nat.zero_add, Nat.sub_zero, Nat.zero_le, true_and]
  by_cases h : j < z
  · rw [if_pos h, List.getElem?_append_left (by omega)]
  · rw [if_neg h, List.getElem?_append_right (by omega), List.getElem?_append_right (by omega), hn, hc]
 | c :: r, i + 1, j, hz, h => by
  have hc := hz c (List.mem_cons_self ..)
  have ih := fun j => flat_set (l := r) (i := i) hn j (fun cs hcs => hz cs (List.mem_cons_of_mem _ hcs)) (by simpa using h)
  simp only [List.set_cons_succ, List.flatten_cons]
  rw [Nat.succ_mul]
  by_cases h1 : j < z
  · rw [if_neg (by omega), List.getElem?_append_left (by omega), List.getElem?_append_left (by omega)]
  · rw [List.getElem?_append_right (by omega), List.getElem?_append_right (by omega), hc, ih]
    by_cases h2 : i * z ≤ j - z ∧ j - z < i * z + z
    · rw [if_pos h2, if_pos (by omega), show j - (i * z + z) = j - z - i * z by omega]
    · rw [if_neg h2, if_neg (by omega)]
/-- A store into an element of an own row. -/
theorem put_ok (K : Ok s B M h m w) {T : TypeId} {p x : Operand} (ho : o.op = .store T p x) {b z i off U : Nat} {l l' : List (List V)} {cs new ys : List V} {sc2 : List (Fa s P)} {ks2 : Ks} (hp : σ.ev p = .rp b z i off) (hb : h b = .rw U z l)
  (hes : exps (exp σ.ho 5) (ceV (σ.evT P T x)) = some (ys, [])) (hf : l[i]? = some cs) (hl' : l.set i new = l') (hnew : splice cs off ys = new) (c1 : (s || !Nat.beq U 3) = true) (c2 : szT P T = some (ceV (σ.evT P T x)).length) (c3 : off + ys.length ≤ z) (c4 : (ceV (σ.evT P T x)).all one = true)
  (H : Opd s w (Av M h m) m o a σ) : Goal_ s B M P o a h m w (⟨.un, [(b, .rw U z l')], [], sc2, ks2⟩ : R s P) := by
 have hx := H.evT (P := P) (T := T) (x := x) (by simp [ho, Op.operands])
 have hpp := H.ev (x := p) (by simp [ho, Op.operands])
 rw [hp] at hpp
 obtain ⟨v, xs, h1, h2, h3, h4, h5⟩ := K.rw b U z l hb
 have hil := (List.getElem?_eq_some_iff.1 hf).1
 have hcs := h2 cs (List.mem_of_getElem? hf)
 obtain ⟨k1, k2, k3⟩ := ce_rep hx c4
 obtain ⟨e1, e2⟩ := exps_nil K hes
 have hnl : new.length = z := by rw [← hnew, (splice_get (by omega) 0).1, hcs]
 have hll : l'.length = l.length := by rw [← hl', List.length_set]
 generalize hu : a.eval p = u at hpp
 cases hpp with
 | rp _ _ _ _ _ g n' c' hg =>
  rw [h1] at hg
  injection hg with hg
  subst hg
  rcases h3.2 with ⟨h6, h7⟩ | ⟨g', cap, cur, hv, hB, hh, hn, hc, hsz, htk⟩
  · omega
  · injection hv with hv1 hv2 hv3
    injection hv1 with hv1
    injection hv1 with hv1
    subst hv1; subst hv2; subst hv3
    have hb1 : i * z + z ≤ l.length * z := by rw [← Nat.succ_mul]; exact Nat.mul_le_mul_right _ hil
    have hb2 : l.length * z ≤ c' * z := Nat.mul_le_mul_right _ hn
    obtain ⟨w', cs', q1, q2, q3, q4, q5, q6, q7, q8⟩ := run_storeCells (P := P) (g := g) (o := i * z + off) (T := U) (a.eval x).cells.toList 0 w cur k3 hh (by rw [Array.length_toList, Nat.add_zero, k1, hsz]; omega)
    rw [Array.length_toList] at q6 q7
    have hd : h b ≠ .dead := by rw [hb]; intro e; cases e
    have hkp : s = false → Kp w w' := fun e => q8 (by intro eU; subst e; subst eU; simp at c1)
    have hold : ∀ j, j < l.length * z → xs[j]? = some (cur.getD j undef) := fun j hj => by
     rw [← htk, List.getElem?_take, if_pos hj, Array.getElem?_toList, Array.getElem?_eq_getElem (by omega), Array.getD_eq_getD_getElem?, Array.getElem?_eq_getElem (by omega)]; rfl
    have hnw : ∀ j, j < l.length * z → (cs'.toList.take (l.length * z))[j]? = some (cs'.getD j undef) := fun j hj => by
     rw [List.getElem?_take, if_pos hj, Array.getElem?_toList, Array.getElem?_eq_getElem (by omega), Array.getD_eq_getD_getElem?, Array.getElem?_eq_getElem (by omega)]; rfl
    have hout : ∀ j, ¬ (i * z + off ≤ j ∧ j < i * z + off + ys.length) → cs'.getD j undef = cur.getD j undef := fun j hj => by
     rcases Nat.lt_or_ge j (i * z + off) with h8 | h8
     · exact q5 j (by omega)
     · exact q6 j (by omega)
    have hinn : ∀ q, q < ys.length → cs'.getD (i * z + off + q) undef = (a.eval x).cells.getD q undef := fun q hq => by
     have := q7 q (by omega)
     rw [show i * z + off + 0 + q = i * z + off + q by omega, getD_toList] at this
     exact this
    have htl : (cs'.toList.take (l.length * z)).length = l.length * z := by rw [List.length_take, show cs'.toList.length = c' * z from q4.trans hsz]; exact Nat.min_eq_left hb2
    have hq4 : cs'.size = c' * z := q4.trans hsz
    obtain ⟨t1, t2⟩ := K.turn (x := .rw U z l') (u := .slice (some ⟨g, 0, none⟩) l.length c') (g := g) hd h1 rfl q2 hkp (fun _ _ e => by cases e) (fun T' z' l2 e => by
     injection e with e1' e2' e3'
     subst e1'; subst e2'; subst e3'
     refine ⟨cs'.toList.take (l.length * z), fun d hd' => ?_, ⟨by rw [htl, hll], .inr ⟨g, c', cs', by rw [hll], hB, q3, by rw [hll]; exact hn, hc, hq4, by rw [hll]⟩⟩, fun u' hu' => ?_, fun j y hy => ?_⟩
     · rw [← hl'] at hd'
       rcases List.mem_or_eq_of_mem_set hd' with h8 | h8
       · exact h2 d h8
       · rw [h8]; exact hnl
     · obtain ⟨j, hj⟩ := List.getElem?_of_mem hu'
       have hjl : j < l.length * z := by
        have := (List.getElem?_eq_some_iff.1 hj).1
        rw [htl] at this
        exact this
       rw [hnw j hjl] at hj
       injection hj with hj
       subst hj
       by_cases hj2 : i * z + off ≤ j ∧ j < i * z + off + ys.length
       · have h9 := hinn (j - (i * z + off)) (by omega)
         rw [show i * z + off + (j - (i * z + off)) = j by omega] at h9
         rw [h9]
         have hlt : j - (i * z + off) < (a.eval x).cells.size := by omega
         refine k3 _ ?_
         rw [Array.getD_eq_getD_getElem?, Array.getElem?_eq_getElem hlt]
         exact Array.mem_toList_iff.2 (Array.getElem_mem _)
       · rw [hout j hj2]
         exact h4 _ (List.mem_of_getElem? (hold j hjl))
     · have hjl : j < l.length * z := by
        have := (List.getElem?_eq_some_iff.1 hy).1
        rw [flat_len (z := z) (fun d hd' => by
         rw [← hl'] at hd'
         rcases List.mem_or_eq_of_mem_set hd' with h8 | h8
         · exact h2 d h8
         · rw [h8]; exact hnl), hll] at this
        exact this
       rw [List.getD_eq_getElem?_getD, hnw j hjl]
       show Rep s w _ no (cs'.getD j undef) y
       rw [← hl', flat_set hnl j h2 hil] at hy
       have hkeep : l.flatten[j]? = some y → ¬ (i * z + off ≤ j ∧ j < i * z + off + ys.length) → Rep s w (Av M h m) no (cs'.getD j undef) y := fun hy hj2 => by
        rw [hout j hj2]
        have := h5 j y hy
        rw [List.getD_eq_getElem?_getD, hold j hjl] at this
        exact this
       split at hy
       · rename_i hj2
         rw [← hnew, (splice_get (by omega) _).2] at hy
         split at hy
         · rename_i hj3
           have h9 := hinn (j - (i * z + off)) (by omega)
           rw [show i * z + off + (j - (i * z + off)) = j by omega] at h9
           rw [h9]
           refine e2 _ y (by rw [show j - (i * z + off) = j - i * z - off by omega]; exact hy) _ fun y' hy' => k2 _ _ hy'
         · rename_i hj3
           refine hkeep ?_ (by omega)
           have := flat_get h2 hf hy
           rwa [show i * z + (j - i * z) = j by omega] at this
       · rename_i hj2
         exact hkeep hy (by omega)) (fun _ e => by cases e)
    refine .inr (.inl ⟨w', ?_, m, t1, .un _ _, t2, q2.below hB, fun c hc => .inl hc⟩)
    simp only [execOp, ho, Instr.storeAt, hu, Instr.sureAddr, storeVar, Sem.run_bind, Sem.run_pure, Result.andThen_ok, run_size c2]
    rw [if_neg (by rw [k1]; simp)]
    simp [q1]
theorem store_ok (K : Ok s B M h m w) {T : TypeId} {p x : Operand} (ho : o.op = .store T p x) (e : aop s P o σ sc = some r) (hk : ∀ p ∈ r.ks, p.1 = p.2) (H : Opd s w (Av M h m) m o a σ) (hh : ∀ b ∈ r.ws.map (·.1), b < σ.h.length → h b = σ.ho b) : Goal_ s B M P o a h m w r := by
 simp only [aop, ho] at e
 split at e
 · rename_i b off hp
   split at e
   · rename_i U l hb
     split at e
     · rename_i hc
       injection e with e
       subst e
       simp only [Bool.and_eq_true, Nat.ble_eq] at hc
       obtain ⟨⟨⟨c1, c2⟩, c3⟩, c4⟩ := hc
       have hbl : b < σ.h.length := by
        rcases Nat.lt_or_ge b σ.h.length with e | e
        · exact e
        · have h1 : σ.ho b = .dead := by simp only [St.ho, List.getD_eq_getElem?_getD, List.getElem?_eq_none e]; rfl
          rw [h1] at hb; cases hb
       have hb' := (hh b (by simp) hbl).trans hb
       have hx := H.evT (P := P) (T := T) (x := x) (by simp [ho, Op.operands])
       have hpp := H.ev (x := p) (by simp [ho, Op.operands])
       rw [hp] at hpp
       obtain ⟨g, cs, h1, h2, h3, h4, h5⟩ := K.bx b U l hb'
       obtain ⟨k1, k2, k3⟩ := ce_rep hx c4
       generalize hu : a.eval p = u at hpp
       cases hpp with
       | lp _ _ _ g' hg =>
         rw [h1] at hg
         injection hg with hg
         injection hg with hg
         injection hg with hg
         injection hg with hg
         subst hg
         obtain ⟨w', cs', q1, q2, q3, q4, q5, q6, q7, q8⟩ := run_storeCells (P := P) (g := g) (o := off) (T := U) (a.eval x).cells.toList 0 w cs k3 h3 (by rw [Array.length_toList, Nat.add_zero, k1, h4]; exact c3)
         have hd : h b ≠ .dead := by rw [hb']; intro e; cases e
         have hkp : s = false → Kp w w' := fun e => q8 (by
          intro eU
          subst e; subst eU
          simp at c1)
         obtain ⟨t1, t2⟩ := K.turn (x := .bx U (splice l off (ceV (σ.evT P T x)))) (u := .pointer (some ⟨g, 0, none⟩)) (g := g) hd h1 rfl q2 hkp (fun T' l' e => by
          injection e with e1 e2
          subst e1; subst e2
          refine ⟨cs', rfl, q3, by rw [q4, h4, (splice_get c3 0).1], fun j y hy => ?_⟩
          rw [(splice_get c3 j).2] at hy
          rw [Array.length_toList] at q6 q7
          split at hy
          · rename_i hj
            have h6 := q7 (j - off) (by rw [k1]; omega)
            rw [show off + 0 + (j - off) = j by omega, getD_toList] at h6
            rw [h6]
            exact k2 _ _ hy
          · rename_i hj
            have hjl := (List.getElem?_eq_some_iff.1 hy).1
            have h6 : cs'.getD j undef = cs.getD j undef := by
             rcases Nat.lt_or_ge j off with h7 | h7
             · exact q5 j (by omega)
             · exact q6 j (by omega)
            rw [h6]
            exact h5 j y hy) (fun _ _ _ e => by cases e) (fun _ e => by cases e)
         refine .inr (.inl ⟨w', ?_, m, t1, .un _ _, t2, q2.below h2, fun c hc => .inl hc⟩)
         have hsz : ∃ n, szT P T = some n ∧ n = (a.eval x).cells.size := by
          split at c2
          · rename_i n hn
            exact ⟨n, hn, (Nat.eq_of_beq_eq_true c2).trans k1.symm⟩
          · cases c2
         obtain ⟨n, hn1, hn2⟩ := hsz
         simp only [execOp, ho, Instr.storeAt, hu, Instr.sureAddr, storeVar, Sem.run_bind, Sem.run_pure, Result.andThen_ok, run_size hn1]
         rw [if_neg (by rw [hn2]; simp)]
         simp [q1]
     · cases e
   · cases e
 · rename_i b z i off hp
   split at e
   · rename_i U z' l ys l0 i0 cs new l' hf hl' sc' hb hes
     split at e
     · rename_i hc
       injection e with e
       subst e
       simp only [Bool.and_eq_true, Nat.ble_eq] at hc
       obtain ⟨c1, c2, c3, c4, c5, c6⟩ := hc
       have c2 := Nat.eq_of_beq_eq_true c2
       subst c2
       have hkey := hk _ (List.mem_singleton.2 rfl)
       simp only [List.cons.injEq, V.sl.injEq, V.k.injEq, V.ag.injEq, Value.int.injEq, true_and, and_true] at hkey
       obtain ⟨rfl, hi, hnew⟩ := hkey
       have hi : i = i0 := by omega
       subst hi
       have hbl : b < σ.h.length := by
        rcases Nat.lt_or_ge b σ.h.length with e | e
        · exact e
        · have h1 : σ.ho b = .dead := by simp only [St.ho, List.getD_eq_getElem?_getD, List.getElem?_eq_none e]; rfl
          rw [h1] at hb; cases hb
       have hsz : szT P T = some (ceV (σ.evT P T x)).length := by
        split at c3
        · rename_i n hn
          rw [hn, Nat.eq_of_beq_eq_true c3]
        · cases c3
       exact put_ok K ho hp ((hh b (by simp) hbl).trans hb) hes hf hl' hnew c1 hsz c4 c6 H
     · cases e
   · cases e
 · cases e
theorem bs_new {σ : St} {e : TypeId} {n len : Nat} {ps : List (Nat × V)} {sc : List (Fa s P)} {r : R s P} (h : bsV σ e n len ps sc = some r) : ∀ b ∈ r.ws.map (·.1), σ.h.length ≤ b := by
 unfold bsV at h
 split at h
 · split at h
   · split at h
     · split at h
       · split at h
         · injection h with h; subst h; intro b hb; simp at hb; omega
         · cases h
       · injection h with h; subst h; intro b hb; simp at hb; omega
     · cases h
   · cases h
 · cases h
theorem bs_ok (K : Ok s B M h m w) {T : TypeId} {len : Nat} {ps : Array (Nat × Operand)} (ho : o.op = .buildSlice T len ps) {el : TypeId} {n : Nat} {zz : Value × List V} (hd : P.underlying T = some (.slice el)) (hsz : szT P el = some n) (hz : zeroV P el = some zz) {sc : List (Fa s P)} (e : bsV σ el n len (ps.toList.map fun x => (x.1, σ.evT P el x.2)) sc = some r) (H : Opd s w (Av M h m) m o a σ) (hn : ∀ b ∈ r.ws.map (·.1), σ.h.length ≤ b → h b = .dead ∧ m b = none) : Goal_ s B M P o a h m w r := by
 obtain ⟨z, zl⟩ := zz
 unfold bsV at e
 split at e
 · rename_i l hl
   split at e
   · rename_i ys hys
     split at e
     · rename_i hc
       simp only [Bool.and_eq_true, Nat.ble_eq] at hc
       obtain ⟨⟨c1, c0⟩, c2⟩ := hc
       obtain ⟨z1, z2, z3⟩ := zero_ok (s := s) (w := w) (A := Av M h m) (m := m) hz
       let zero : Array Value := if len * n = 0 then #[] else z.cells
       let base : Array Value := (Array.range (len * n)).map (zero[· % zero.size]!)
       obtain ⟨cs', g1, g2, g3⟩ := fill_ok (s := s) (w := w) (A := Av M h m) (m := m) (ps.toList.map fun x => (x.1, σ.evT P el x.2)) (ps.toList.map fun x => (x.1, a.eval x.2)) (List.replicate (len * n) .un) base l hl (by simp [base]) (fun j x hx => by
        rw [List.getElem?_replicate] at hx
        split at hx
        · injection hx with hx; subst hx; exact .un _ _
        · cases hx) (by simp) (fun i p u hp hu => by
        simp only [List.getElem?_map, Option.map_eq_some_iff] at hp hu
        obtain ⟨q, hq, rfl⟩ := hp
        obtain ⟨q', hq', rfl⟩ := hu
        rw [hq] at hq'
        injection hq' with hq'
        subst hq'
        exact ⟨rfl, H.evT (by rw [ho]; simp only [Op.operands, List.mem_map]; exact ⟨q, List.mem_of_getElem? hq, rfl⟩)⟩)
       have hll : l.length = len * n := by
        have : ∀ (ps : List (Nat × V)) (z l : List V), fillV (fun i => some (i * n, n)) z ps = some l → l.length = z.length := by
         intro ps
         induction ps with
         | nil => intro z l h; simp only [fillV, Option.some.injEq] at h; subst h; rfl
         | cons p r ih =>
           intro z l h
           obtain ⟨i, v⟩ := p
           simp only [fillV] at h
           split at h
           · rename_i hc
             simp only [Bool.and_eq_true, Nat.ble_eq] at hc
             rw [ih _ _ h, (splice_get hc.1.2 0).1]
           · cases h
        rw [this _ _ _ hl]; simp
       obtain ⟨y1, y2⟩ := exps_nil K hys
       have hrep : ∀ j y, ys[j]? = some y → Rep s w (Av M h m) no (cs'.toList.getD j undef) y := fun j y hy => by
        rw [getD_toList]
        exact y2 j y hy _ fun x hx => g3 j x hx
       have hcl : cs'.toList.length = ys.length := by rw [Array.length_toList, g2, y1]
       have hone := rep_one hcl hrep c2
       have hb : Below w.heap.size w (w.alloc (.cells cs' el)) := (Below.refl _ _).alloc (Nat.le_refl _) _
       have hu : ∀ g, E.blk (.slice (some ⟨w.heap.size, 0, none⟩) len len) = some g → w.heap.size ≤ g := fun g e => by simp only [E.blk, Option.some.injEq] at e; omega
       have hrun : (execOp a.eval o).run P w = .ok (.value (.slice (some ⟨w.heap.size, 0, none⟩) len len)) (w.alloc (.cells cs' el)) := by
        have hbig : ¬ len * n > 2 ^ 24 := by omega
        by_cases h0 : len * n = 0
        · simp only [base, zero, if_pos h0] at g1
          simp [execOp, ho, Instr.buildSlice, run_under hd, run_size hsz, h0, Array.toList_map, newRow] at g1 ⊢
          simp [g1]
        · simp only [base, zero, if_neg h0] at g1
          simp [execOp, ho, Instr.buildSlice, run_under hd, run_size hsz, hbig, h0, z1, Array.toList_map, newRow, g1]
       have hown : (w.alloc (.cells cs' el)).ownsRow B el n (.slice (some ⟨w.heap.size, 0, none⟩) len len) len cs'.toList :=
        ⟨by rw [Array.length_toList, g2, hll], .inr ⟨w.heap.size, len, cs', rfl, K.bs, by show (w.heap.push _)[w.heap.size]? = _; simp, Nat.le_refl _, Nat.le_trans c0 (by decide), by rw [g2, hll], by rw [List.take_of_length_le]; rw [Array.length_toList, g2, hll]; exact Nat.le_refl _⟩⟩
       split at e
       · rename_i hint
         have hint := Nat.eq_of_beq_eq_true hint
         split at e
         · rename_i zs hn1 hzs
           have hn1 := Nat.eq_of_beq_eq_true hn1
           injection e with e
           subst e
           obtain ⟨hdd, hmm⟩ := hn σ.h.length (by simp) (Nat.le_refl _)
           have hys := ints_ok hzs
           have hil : cs'.toList = il zs := by
            apply List.ext_getElem?
            intro j
            rcases Nat.lt_or_ge j ys.length with hj | hj
            · have h5 := hrep j ys[j] (List.getElem?_eq_getElem hj)
              rw [List.getD_eq_getElem?_getD, List.getElem?_eq_getElem (by omega)] at h5
              rw [List.getElem?_eq_getElem (by omega)]
              have hz' : ys[j]? = (zs.map fun z => V.k (.int .i64 z))[j]? := by rw [hys]
              rw [List.getElem?_eq_getElem hj, List.getElem?_map] at hz'
              cases hzj : zs[j]? with
              | none => rw [hzj] at hz'; cases hz'
              | some q =>
                rw [hzj] at hz'
                simp only [Option.map_some, Option.some.injEq] at hz'
                rw [hz'] at h5
                rw [il_at zs hzj]
                exact congrArg some (Rep.k_inv h5)
            · rw [List.getElem?_eq_none (by omega), List.getElem?_eq_none (by rw [il_length]; rw [hys] at hj; simpa using hj)]
           have hzl : zs.length = len := by
            have h6 := y1
            rw [hys, List.length_map, hll, hn1] at h6
            omega
           refine Exec.val hrun ⟨upd m σ.h.length (some (.slice (some ⟨w.heap.size, 0, none⟩) len len)), K.new hdd hmm hu hb (fun U l' e => by cases e) (fun U z' l' e => by cases e) (fun l' e => ?_), .ow _ _ _ _ _ upd_eq, .new hdd hmm hu hb, hb.mono K.bs, fun c hc => ?_⟩
           · injection e with e1
             subst e1
             rw [← hil, hzl]
             rw [hn1] at hown
             subst hint
             exact hown
           · by_cases e : c = σ.h.length
             · subst e; exact .inr (by simp)
             · rw [upd_ne e] at hc; exact .inl hc
         · cases e
       · injection e with e
         subst e
         obtain ⟨hdd, hmm⟩ := hn σ.h.length (by simp) (Nat.le_refl _)
         obtain ⟨k1, k2, k3⟩ := chunks_ok (n := n) len ys (by rw [y1, hll])
         refine Exec.val hrun ⟨upd m σ.h.length (some (.slice (some ⟨w.heap.size, 0, none⟩) len len)), K.new hdd hmm hu hb (fun U l' e => by cases e) (fun U z' l' e => ?_) (fun l' e => by cases e), .ow _ _ _ _ _ upd_eq, .new hdd hmm hu hb, hb.mono K.bs, fun c hc => ?_⟩
         · injection e with e1 e2 e3
           subst e1; subst e2; subst e3
           exact ⟨cs'.toList, k2, by rw [k1]; exact hown, hone, fun j x hx => hrep j x (by rw [← k3]; exact hx)⟩
         · by_cases e : c = σ.h.length
           · subst e; exact .inr (by simp)
           · rw [upd_ne e] at hc; exact .inl hc
     · cases e
   · cases e
 · cases e
theorem Exec.imp {Q Q' : Value → World → Prop} (h : Exec P o a w Q) (i : ∀ u w', Q u w' → Q' u w') : Exec P o a w Q' := by
 rcases h with ⟨u, w', h1, h2⟩ | ⟨w', h1, h2⟩ | ⟨f, args, h1, h2⟩
 · exact .inl ⟨u, w', h1, i _ _ h2⟩
 · exact .inr (.inl ⟨w', h1, i _ _ h2⟩)
 · exact .inr (.inr ⟨f, args, h1, h2.mono fun e w' ⟨u, q1, q2⟩ => ⟨u, q1, i _ _ q2⟩⟩)
theorem ro_ok {r' : R s P} (e : roV r = some r') (hd : ∀ b ∈ r'.ws.map (·.1), h b = .dead) (G : Goal_ s B M P o a h m w r) : Goal_ s B M P o a h m w r' := by
 unfold roV at e
 split at e
 · rename_i j i x hv hw
   split at e
   · rename_i y q hij he
     have hij := Nat.eq_of_beq_eq_true hij
     subst hij
     injection e with e
     subst e
     have hdj : h j = .dead := hd j (by simp)
     have hq : q = j := by
      simp only [exp] at he
      cases x <;> simp at he <;> exact he.2.symm
     subst hq
     refine Exec.imp G fun u w' => ?_
     rw [hv, hw]
     rintro ⟨m', K', hr, hmo, hb, hn⟩
     have hu : upds h [(q, x)] = upd h q x := rfl
     have hk : upd (upd h q x) q .dead = upds h [(q, .dead)] := by
      funext c
      by_cases hc : c = q
      · subst hc; rw [upd_eq]; exact upd_eq.symm
      · rw [upd_ne hc, upd_ne hc]; exact (upd_ne hc).symm
     rw [hu] at K' hr hmo
     have hx : x ≠ .dead := by
      intro ex
      subst ex
      simp [exp] at he
     have kk : Ok s B M (upds h [(q, .dead)]) m' w' := by rw [← hk]; exact K'.kill q
     have mk : Mo s w' (Av M (upd h q x) m') m' w' (Av M (upds h [(q, .dead)]) m') m' := by rw [← hk]; exact Mo.kill
     have hy := exp_rep (h0 := fun _ => x) (A' := Av M (upds h [(q, .dead)]) m') K' (fun g e => (mk.av g e).elim id fun h => absurd (kk.av_lt e) (by omega)) 2 _ _ _ he (fun b hb => by
      obtain rfl := List.mem_singleton.1 hb
      refine ⟨upd_eq, fun v g h1 h2 => ?_⟩
      have := kills_out (ks := [b]) K' (List.mem_singleton.2 rfl) (by rw [upd_eq]; exact hx) h1 h2
      rw [show upds (upd h b x) (kills [b]) = upds h [(b, .dead)] from hk] at this
      exact this) _ hr
     exact ⟨m', kk, hy.mo Mo.up, hmo.trans mk, hb, fun b hb' => by simpa using hn b hb'⟩
   · cases e
 · cases e
theorem buildSlice_ok (K : Ok s B M h m w) {T : TypeId} {len : Nat} {ps : Array (Nat × Operand)} (ho : o.op = .buildSlice T len ps) (e : aop s P o σ sc = some r) (H : Opd s w (Av M h m) m o a σ) (hn : ∀ b ∈ r.ws.map (·.1), σ.h.length ≤ b → h b = .dead ∧ m b = none) : Goal_ s B M P o a h m w r := by
 simp only [aop, ho] at e
 split at e
 · rename_i el hd
   split at e
   · rename_i n zz hsz hz
     split at e
     · split at e
       · rename_i r0 hr0
         have hlen : ∀ b ∈ r.ws.map (·.1), σ.h.length ≤ b := by
          unfold roV at e
          split at e
          · rename_i j i x hv hw
            split at e
            · injection e with e
              subst e
              have := bs_new hr0 i (by rw [hw]; simp)
              intro b hb
              simp at hb
              omega
            · cases e
          · cases e
         refine ro_ok e (fun b hb => (hn b hb (hlen b hb)).1) (bs_ok K ho hd hsz hz hr0 H fun b hb hl => hn b ?_ hl)
         unfold roV at e
         split at e
         · rename_i j i x hv hw
           split at e
           · injection e with e
             subst e
             rw [hw] at hb
             simpa using hb
           · cases e
         · cases e
       · cases e
     · exact bs_ok K ho hd hsz hz e H hn
   · cases e
 · cases e
theorem append_run {t e ty : TypeId} {i : TypeInfo} {z : Value} (ht : P.underlying t = some (.slice e)) (hi : P.info? e = some i) (hz : i.zero = some z) (hzs : z.cells.size = i.size) (hsz : 0 < i.size) {v : Value} {n : Nat} {xs : List Value} (hown : w.ownsRow B e i.size v n xs)
  {a : Addr} {m c : Nat} {news : List Value} (hl : news.length = m * i.size) (hnews : ∀ j u, news[j]? = some u → w.cell? (a.add j) = some u) (h1 : ∀ u ∈ news, u.oneCell' = true) (h0 : 0 < m) (h63 : n + m ≤ maxLen) (hbytes : (n + m) * i.bytes ≤ 140737488355328) (hB : B ≤ w.heap.size) :
  ∃ v' w', (Builtin.append_ #[t, t] ty #[v, .slice (some a) m c]).run P w = .ok v' w' ∧ w'.ownsRow B e i.size v' (n + m) (xs ++ news) ∧ w.grownBy w' v.ownBlock ∧ (∃ A c, v' = .slice A (n + m) c) ∧ ∀ g, E.blk v' = some g → E.blk v = some g ∨ w.heap.size ≤ g := by
 obtain ⟨v', w', r1, r2, r3, _⟩ := run_append_own w B t ty e i z i.size i.bytes ht hi hz rfl rfl hzs hsz v n xs hown a m c news hl hnews h1 h63 hbytes hB
 have hsmall : n + m ≤ 9223372036854775807 := by simp only [maxLen] at h63; omega
 refine ⟨v', w', r1, r2, r3, ?_, ?_⟩
 · rcases r2.2 with ⟨h5, h6⟩ | ⟨g, cap, cur, h5, _⟩
   · omega
   · exact ⟨_, _, h5⟩
 · rcases hown.2 with ⟨rfl, rfl⟩ | ⟨g, cap, cur, rfl, hbg, hg, hnc, hcm, hcs, htake⟩
   · have hr := run_append_nil (P := P) w t ty e i z ht hi hz a m c news hl hnews h0 (by omega) (by have hb := hbytes; simp only [Nat.zero_add] at hb; omega)
     rw [hr] at r1
     injection r1 with r1 _
     subst r1
     intro g hg
     simp only [E.blk, Option.some.injEq] at hg
     exact .inr (by omega)
   · by_cases hroom : n + m ≤ cap
     · have hfit : n * i.size + news.length ≤ cur.size := by rw [hl, hcs, ← Nat.add_mul]; exact Nat.mul_le_mul_right _ hroom
       have hr := run_append_room (P := P) w t ty e i ht hi g n cap cur hg a m c news hl hnews h1 hroom hfit
       rw [hr] at r1
       injection r1 with r1 _
       subst r1
       exact fun g hg => .inl hg
     · have holds : ∀ j u, xs[j]? = some u → w.cell? ((⟨g, 0, none⟩ : Addr).add j) = some u := hown.cells (g := g) rfl
       have hr := run_append_grow (P := P) w t ty e i z ht hi hz ⟨g, 0, none⟩ n cap xs hown.1 holds a m c news hl hnews (by omega) (by omega) (growslice_fits (by omega) hbytes)
       rw [hr] at r1
       injection r1 with r1 _
       subst r1
       intro g hg
       simp only [E.blk, Option.some.injEq] at hg
       exact .inr (by omega)
theorem apT_of {e n bytes : Nat} (h : apT P e = some (n, bytes)) : ∃ i z, P.info? e = some i ∧ i.zero = some z ∧ z.cells.size = i.size ∧ 0 < i.size ∧ i.size = n ∧ i.bytes = bytes := by
 unfold apT at h
 split at h
 · rename_i i hi
   split at h
   · rename_i z hz
     split at h
     · rename_i hc
       simp only [Bool.and_eq_true, Nat.blt_eq] at hc
       simp only [Option.some.injEq, Prod.mk.injEq] at h
       exact ⟨i, z, hi, hz, Nat.eq_of_beq_eq_true hc.1, hc.2, h.1, h.2⟩
     · cases h
   · cases h
 · cases h
/-- The appended elements. -/
theorem blk_own (v : Value) (h : ∃ A n c, v = .slice A n c) : E.blk v = v.ownBlock := by
 obtain ⟨A, n, c, rfl⟩ := h
 cases A <;> rfl
theorem kp_grown {row : Option Nat} (hg : w.grownBy w' row) (hr : ∀ (g : Nat) (cs : Array Value) (fr : Nat × Nat), row = some g → w.heap[g]? ≠ some (.cells cs 3 fr)) : Kp w w' :=
 ⟨hg.size, fun b cs fr h => (hg.block b (Array.getElem?_eq_some_iff.1 h).1 fun e => hr b cs fr e.symm h).trans h⟩
theorem flat_take {z : Nat} : ∀ {l : List (List V)} (k : Nat), (∀ cs ∈ l, cs.length = z) → (l.take k).flatten = l.flatten.take (k * z) ∧ (l.drop k).flatten = l.flatten.drop (k * z)
 | [], k, _ => by simp
 | c :: r, 0, _ => by simp
 | c :: r, k + 1, h => by
  have hc := h c (List.mem_cons_self ..)
  have ih := flat_take (l := r) k fun cs hcs => h cs (List.mem_cons_of_mem _ hcs)
  have e : (k + 1) * z = c.length + k * z := by rw [Nat.succ_mul, hc, Nat.add_comm]
  simp only [List.take_succ_cons, List.drop_succ_cons, List.flatten_cons]
  rw [e, List.take_length_add_append, List.drop_length_add_append, ih.1, ih.2]
  exact ⟨rfl, rfl⟩
theorem World.grownBy_refl (w : World) (r : Option Nat) : w.grownBy w r := by constructor <;> intros <;> first | rfl | assumption | exact Nat.le_refl _ | exact .inl rfl | omega
theorem append_none {t e ty : TypeId} {n0 : Nat} (ht : P.underlying t = some (.slice e)) (hs : szT P e = some n0) {ad X : Option Addr} {n c c2 : Nat} (h : n ≤ c) : (Builtin.append_ #[t, t] ty #[.slice ad n c, .slice X 0 c2]).run P w = .ok (.slice ad n c) w := by
 cases X <;> cases ad <;> simp [Builtin.append_, run_under ht, run_size hs, Builtin.lenOf, Builtin.firstCells, loadCells, loadCellsFrom, storeCells, h]
theorem append_ok (K : Ok s B M h m w) {c : Call} (ho : o.op = .call c) (hc : c.callee = .builtin .append) (e : aop s P o σ sc = some r) (hk : ∀ p ∈ r.ks, p.1 = p.2) (H : Opd s w (Av M h m) m o a σ) (hr : ∀ b ∈ r.rd, h b = σ.ho b) (hw : ∀ b ∈ r.ws.map (·.1), b < σ.h.length → h b = σ.ho b)
  (hn : ∀ b ∈ r.ws.map (·.1), σ.h.length ≤ b → h b = .dead ∧ m b = none) : Goal_ s B M P o a h m w r := by
 simp only [aop, ho, hc] at e
 split at e
 · rename_i x y t t' hargs hts
   have hx := H.evT (P := P) (T := t) (x := x) (by rw [ho]; simp [Op.operands, Call.operands, hc, hargs])
   have hy := H.ev (x := y) (by rw [ho]; simp [Op.operands, Call.operands, hc, hargs])
   have ha : c.args = #[x, y] := by apply Array.ext'; exact hargs
   split at e
   · rename_i el hd
     split at e
     · rename_i n' bytes htt hap
       have htt := Nat.eq_of_beq_eq_true htt
       subst htt
       have hta : c.argTypes = #[t, t] := by apply Array.ext'; exact hts
       obtain ⟨i, z, i1, i2, i3, i4, i5, i6⟩ := apT_of hap
       have hexec : ∀ {u : Value} {w' : World}, (Builtin.append_ #[t, t] o.type #[a.eval x, a.eval y]).run P w = .ok u w' → (execOp a.eval o).run P w = .ok (.value u) w' := by
        intro u w' hrun
        simp [execOp, ho, resolve, hc, ha, hta, invoke, builtin, hrun]
       -- the call's end
       have fin : ∀ {u : Value} {nn : Nat} {xs news : List Value} {A : Addr} {m2 cap : Nat} {ws : List (Nat × HO)}, (∃ A n c, u = .slice A n c) → a.eval x = u → a.eval y = .slice (some A) m2 cap → w.ownsRow B el i.size u nn xs → news.length = m2 * i.size → (∀ j u, news[j]? = some u → w.cell? (A.add j) = some u) → (∀ u ∈ news, u.oneCell' = true) → 0 < m2 → nn + m2 ≤ maxLen → (nn + m2) * i.bytes ≤ 140737488355328 →
         (∀ u' w', w'.ownsRow B el i.size u' (nn + m2) (xs ++ news) → w.grownBy w' u.ownBlock → (∃ A c, u' = .slice A (nn + m2) c) → (∀ g, E.blk u' = some g → E.blk u = some g ∨ w.heap.size ≤ g) → Post s B M h m w ws (.ow σ.h.length) u' w') → Exec P o a w (Post s B M h m w ws (.ow σ.h.length)) := by
        intro u nn xs news A m2 cap ws hu hxu hyv hown h1 h2 h3 h4 h5 h6 hp
        obtain ⟨v', w', r1, r2, r3, r4, r5⟩ := append_run (ty := o.type) hd i1 i2 i3 i4 hown (c := cap) h1 h2 h3 h4 h5 h6 K.bs
        exact Exec.val (hexec (by rw [hxu, hyv]; exact r1)) (hp v' w' r2 r3 r4 r5)
       subst i5; subst i6
       unfold appV at e
       split at e
       · rename_i b2 hye
         rw [hye] at hy
         split at e
         · rename_i U zz l2 kd
           split at e
           · rename_i l0 k9 l' n0 hll h0 hn0 sc' hU
             simp only [Bool.and_eq_true] at hU
             have hU1 := Nat.eq_of_beq_eq_true hU.1
             have hU2 := Nat.eq_of_beq_eq_true hU.2
             subst hU1; subst hU2
             split at e
             · rename_i hlim
               simp only [apLim, Bool.and_eq_true, Nat.ble_eq] at hlim
               have src : h b2 = σ.ho b2 → l2 = k9 → ∃ A cap xs, a.eval y = .slice (some A) k9.length cap ∧ (∀ cs ∈ k9, cs.length = i.size) ∧ List.length xs = k9.length * i.size ∧ (∀ j u, xs[j]? = some u → w.cell? (A.add j) = some u) ∧ (∀ u ∈ xs, Value.oneCell' u = true) ∧ ∀ (j : Nat) (x : V), k9.flatten[j]? = some x → Rep s w (Av M h m) no (List.getD xs j undef) x := by
                intro hb hl2
                subst hl2
                obtain ⟨v2, xs, h1, h2, h3, h4, h5⟩ := K.rw b2 U i.size l2 (hb.trans kd)
                generalize hv : a.eval y = u at hy
                cases hy with
                | ow _ _ ad k2 c2 hm2 =>
                  rw [h1] at hm2
                  injection hm2 with hm2
                  subst hm2
                  obtain ⟨g, cap, hg, _⟩ := own_pos h3 h0
                  injection hg with e1 e2 e3
                  subst e1; subst e2; subst e3
                  exact ⟨_, _, xs, rfl, h2, h3.1, own_cells h3, h4, h5⟩
               have hlen : l'.length = l0.length + k9.length := by rw [← hll, List.length_append]
               have kc : l0.length + k9.length ≤ maxLen := by omega
               have hb2' : (l0.length + k9.length) * i.bytes ≤ 140737488355328 := Nat.le_trans (Nat.mul_le_mul_right _ (by omega)) hlim.1
               -- the new row
               have row : ∀ {xs news : List Value} {w' : World} {u' : Value}, (∀ cs ∈ l0, cs.length = i.size) → (∀ cs ∈ k9, cs.length = i.size) → xs.length = l0.length * i.size → (∀ u ∈ xs, u.oneCell' = true) → (∀ u ∈ news, u.oneCell' = true) → (∀ (j : Nat) (x : V), l0.flatten[j]? = some x → Rep s w (Av M h m) no (xs.getD j undef) x) → (∀ (j : Nat) (x : V), k9.flatten[j]? = some x → Rep s w (Av M h m) no (news.getD j undef) x) → w'.ownsRow B U i.size u' (l0.length + k9.length) (xs ++ news) →
                 ∀ T z l, HO.rw U i.size l' = .rw T z l → ∃ xs, (∀ cs ∈ l, cs.length = z) ∧ w'.ownsRow B T z u' l.length xs ∧ (∀ u ∈ xs, u.oneCell' = true) ∧ ∀ j x, l.flatten[j]? = some x → Rep s w (Av M h m) no (xs.getD j undef) x := by
                intro xs news w' u' k1 k2 k3 k4 k5 k6 k7 k8 T z l e
                injection e with e1 e2 e3
                subst e1; subst e2; subst e3
                refine ⟨xs ++ news, fun cs hcs => ?_, by rw [hlen]; exact k8, fun u hu => (List.mem_append.1 hu).elim (k4 u) (k5 u), fun j x hx => ?_⟩
                · rw [← hll] at hcs
                  exact (List.mem_append.1 hcs).elim (k1 cs) (k2 cs)
                · rw [← hll, List.flatten_append] at hx
                  have hfl := flat_len k1
                  rcases Nat.lt_or_ge j l0.flatten.length with hj | hj
                  · rw [List.getElem?_append_left hj] at hx
                    rw [List.getD_eq_getElem?_getD, List.getElem?_append_left (by omega), ← List.getD_eq_getElem?_getD]
                    exact k6 j x hx
                  · rw [List.getElem?_append_right hj] at hx
                    rw [List.getD_eq_getElem?_getD, List.getElem?_append_right (by omega), ← List.getD_eq_getElem?_getD, show xs.length = l0.flatten.length by omega]
                    exact k7 _ x hx
               split at e
               · rename_i b hxe
                 rw [hxe] at hx
                 split at e
                 · rename_i U' z l hb
                   split at e
                   · rename_i hcc
                     simp only [Bool.and_eq_true] at hcc
                     have hU' := Nat.eq_of_beq_eq_true hcc.2.1
                     have hz' := Nat.eq_of_beq_eq_true hcc.2.2
                     subst hU'; subst hz'
                     injection e with e
                     subst e
                     have hkey := hk _ (List.mem_singleton.2 rfl)
                     simp only [List.cons.injEq, V.sl.injEq, and_true] at hkey
                     obtain ⟨rfl, rfl⟩ := hkey
                     obtain ⟨A, cap, news, s1, s2, s3, s4, s5, s6⟩ := src (hr b2 (by simp)) rfl
                     have hbb := hr b (by simp)
                     have hlive : h b ≠ .dead := by rw [hbb, hb]; intro e; cases e
                     obtain ⟨v1, xs, h1, h2, h3, h4, h5⟩ := K.rw b U' i.size l (hbb.trans hb)
                     obtain ⟨hdd, hmm⟩ := hn σ.h.length (by simp) (Nat.le_refl _)
                     have hib : σ.h.length ≠ b := fun e => by rw [← e, hmm] at h1; cases h1
                     generalize hxv : a.eval x = u at hx
                     cases hx with
                     | ow _ _ ad k2 c2 hm2 =>
                       rw [h1] at hm2
                       injection hm2 with hm2
                       subst hm2
                       refine fin ⟨_, _, _, rfl⟩ hxv s1 h3 s3 s4 s5 h0 kc hb2' fun u' w' r2 r3 r4 r5 => ?_
                       have hkp : s = false → Kp w w' := fun es => kp_grown r3 fun g cs fr hg hh => by
                        rcases h3.2 with ⟨h6, _⟩ | ⟨g', cap', cur, h6, _, h7, _⟩
                        · rw [h6] at hg; cases hg
                        · rw [h6] at hg
                          simp only [Value.ownBlock, Option.some.injEq] at hg
                          subst hg
                          rw [h7] at hh
                          injection hh with hh
                          injection hh with _ hh
                          have ke := hcc.1
                          subst es
                          subst hh
                          simp at ke
                       obtain ⟨t1, t2⟩ := K.app (x := .rw U' i.size l') hlive h1 (blk_own _ ⟨_, _, _, rfl⟩) hib hdd hmm r3 r5 hkp (fun _ _ e => by cases e) (row h2 s2 h3.1 h4 s5 h5 s6 r2) (fun _ e => by cases e)
                       obtain ⟨A', c', r4⟩ := r4
                       subst r4
                       refine ⟨_, t1, .ow _ _ _ _ _ upd_eq, t2, (Below.refl _ _).grown r3 K.bs fun k hk => (K.blk hlive h1 ((blk_own _ ⟨_, _, _, rfl⟩).trans hk)).1, fun c hc => ?_⟩
                       by_cases e : c = σ.h.length
                       · subst e; exact .inr (by simp)
                       · rw [upd_ne e] at hc; exact .inl hc
                   · cases e
                 · cases e
               · rename_i fl hxe
                 rw [hxe] at hx
                 injection e with e
                 subst e
                 have hkey := hk _ (List.mem_singleton.2 rfl)
                 simp only [List.cons.injEq, V.sl.injEq, and_true] at hkey
                 obtain ⟨hl0, rfl⟩ := hkey
                 subst hl0
                 obtain ⟨A, cap, news, s1, s2, s3, s4, s5, s6⟩ := src (hr b2 (by simp)) rfl
                 obtain ⟨hdd, hmm⟩ := hn σ.h.length (by simp) (Nat.le_refl _)
                 generalize hxv : a.eval x = u at hx
                 cases hx with
                 | nl =>
                   refine fin ⟨_, _, _, rfl⟩ hxv s1 (World.ownsRow_nil w B U i.size) s3 s4 s5 h0 kc hb2' fun u' w' r2 r3 r4 r5 => ?_
                   have hbel : Below w.heap.size w w' := (Below.refl _ _).grown r3 (Nat.le_refl _) fun k hk => by cases hk
                   have hu : ∀ g, E.blk u' = some g → w.heap.size ≤ g := fun g hg => (r5 g hg).elim (fun e => by cases e) id
                   obtain ⟨A', c', r4⟩ := r4
                   subst r4
                   refine ⟨_, K.new (x := .rw U i.size l') hdd hmm hu hbel (fun _ _ e => by cases e) (row (fun _ h => by simp at h) s2 (by simp) (fun _ h => by simp at h) s5 (fun j x h => by simp at h) s6 r2) (fun _ e => by cases e), .ow _ _ _ _ _ upd_eq, .new hdd hmm hu hbel, hbel.mono K.bs, fun c hc => ?_⟩
                   by_cases e : c = σ.h.length
                   · subst e; exact .inr (by simp)
                   · rw [upd_ne e] at hc; exact .inl hc
               · cases e
             · cases e
           · cases e
         · rename_i l2 kd
           split at e
           · rename_i l0 k9 l' n0 hll h0 hn0 sc' hU
             simp only [Bool.and_eq_true] at hU
             have hU1 := Nat.eq_of_beq_eq_true hU.1
             have hU2 := Nat.eq_of_beq_eq_true hU.2
             subst hU1
             split at e
             · rename_i hlim
               simp only [apLim, Bool.and_eq_true, Nat.ble_eq] at hlim
               have src : h b2 = σ.ho b2 → l2 = k9 → ∃ A cap, a.eval y = .slice (some A) k9.length cap ∧ (il k9).length = k9.length * i.size ∧ ∀ j u, (il k9)[j]? = some u → w.cell? (A.add j) = some u := by
                intro hb hl2
                subst hl2
                obtain ⟨v2, h1, h3⟩ := K.ri b2 l2 (hb.trans kd)
                generalize hv : a.eval y = u at hy
                cases hy with
                | ow _ _ ad k2 c2 hm2 =>
                  rw [h1] at hm2
                  injection hm2 with hm2
                  subst hm2
                  obtain ⟨g, cap, hg, _⟩ := own_pos h3 h0
                  injection hg with e1 e2 e3
                  subst e1; subst e2; subst e3
                  exact ⟨_, _, rfl, by rw [hU2]; exact h3.1, own_cells h3⟩
               have hlen : l'.length = l0.length + k9.length := by rw [← hll, List.length_append]
               have kc : l0.length + k9.length ≤ maxLen := by omega
               have hb2' : (l0.length + k9.length) * i.bytes ≤ 140737488355328 := Nat.le_trans (Nat.mul_le_mul_right _ (by omega)) hlim.1
               have row : ∀ {w' : World} {u' : Value}, w'.ownsRow B 3 i.size u' (l0.length + k9.length) (il l0 ++ il k9) → ∀ l, HO.ri l' = .ri l → w'.ownsRow B 3 1 u' l.length (il l) := by
                intro w' u' k8 l e
                injection e with e1
                subst e1
                rw [hlen, ← hll, il_append]
                rw [hU2] at k8
                exact k8
               split at e
               · rename_i b hxe
                 rw [hxe] at hx
                 split at e
                 · rename_i l hb
                   split at e
                   · rename_i hs
                     injection e with e
                     subst e
                     have hkey := hk _ (List.mem_singleton.2 rfl)
                     simp only [List.cons.injEq, V.dg.injEq, and_true] at hkey
                     obtain ⟨rfl, rfl⟩ := hkey
                     obtain ⟨A, cap, s1, s3, s4⟩ := src (hr b2 (by simp)) rfl
                     have hbb := hr b (by simp)
                     have hlive : h b ≠ .dead := by rw [hbb, hb]; intro e; cases e
                     obtain ⟨v1, h1, h3⟩ := K.ri b l (hbb.trans hb)
                     obtain ⟨hdd, hmm⟩ := hn σ.h.length (by simp) (Nat.le_refl _)
                     have hib : σ.h.length ≠ b := fun e => by rw [← e, hmm] at h1; cases h1
                     generalize hxv : a.eval x = u at hx
                     cases hx with
                     | ow _ _ ad k2 c2 hm2 =>
                       rw [h1] at hm2
                       injection hm2 with hm2
                       subst hm2
                       refine fin ⟨_, _, _, rfl⟩ hxv s1 (by rw [hU2]; exact h3) s3 s4 (il_oneCell _) h0 kc hb2' fun u' w' r2 r3 r4 r5 => ?_
                       obtain ⟨t1, t2⟩ := K.app (x := .ri l') hlive h1 (blk_own _ ⟨_, _, _, rfl⟩) hib hdd hmm r3 r5 (fun es => by rw [es] at hs; cases hs) (fun _ _ e => by cases e) (fun _ _ _ e => by cases e) (row r2)
                       obtain ⟨A', c', r4⟩ := r4
                       subst r4
                       refine ⟨_, t1, .ow _ _ _ _ _ upd_eq, t2, (Below.refl _ _).grown r3 K.bs fun k hk => (K.blk hlive h1 ((blk_own _ ⟨_, _, _, rfl⟩).trans hk)).1, fun c hc => ?_⟩
                       by_cases e : c = σ.h.length
                       · subst e; exact .inr (by simp)
                       · rw [upd_ne e] at hc; exact .inl hc
                   · cases e
                 · cases e
               · rename_i fl hxe
                 rw [hxe] at hx
                 injection e with e
                 subst e
                 have hkey := hk _ (List.mem_singleton.2 rfl)
                 simp only [List.cons.injEq, V.dg.injEq, and_true] at hkey
                 obtain ⟨hl0, rfl⟩ := hkey
                 subst hl0
                 obtain ⟨A, cap, s1, s3, s4⟩ := src (hr b2 (by simp)) rfl
                 obtain ⟨hdd, hmm⟩ := hn σ.h.length (by simp) (Nat.le_refl _)
                 generalize hxv : a.eval x = u at hx
                 cases hx with
                 | nl =>
                   refine fin ⟨_, _, _, rfl⟩ hxv s1 (World.ownsRow_nil w B 3 i.size) s3 s4 (il_oneCell _) h0 kc hb2' fun u' w' r2 r3 r4 r5 => ?_
                   have hbel : Below w.heap.size w w' := (Below.refl _ _).grown r3 (Nat.le_refl _) fun k hk => by cases hk
                   have hu : ∀ g, E.blk u' = some g → w.heap.size ≤ g := fun g hg => (r5 g hg).elim (fun e => by cases e) id
                   obtain ⟨A', c', r4⟩ := r4
                   subst r4
                   refine ⟨_, K.new (x := .ri l') hdd hmm hu hbel (fun _ _ e => by cases e) (fun _ _ _ e => by cases e) (row r2), .ow _ _ _ _ _ upd_eq, .new hdd hmm hu hbel, hbel.mono K.bs, fun c hc => ?_⟩
                   by_cases e : c = σ.h.length
                   · subst e; exact .inr (by simp)
                   · rw [upd_ne e] at hc; exact .inl hc
               · cases e
             · cases e
           · cases e
         · cases e
       · rename_i c2 z2 j n2 hye
         rw [hye] at hy
         split at e
         · rename_i b z3 i0 k hxe
           rw [hxe] at hx
           split at e
           · rename_i U' z' l l0 l' k0 j0 n1 n0 hll hk0 hj0 hn0 sc' hb
             split at e
             · rename_i hcc
               injection e with e
               subst e
               simp only [apLim, Bool.and_eq_true, Nat.ble_eq] at hcc
               obtain ⟨d1, d2, d3, d4, d5, d6, d7, hlim⟩ := hcc
               have d2 := Nat.eq_of_beq_eq_true d2
               have d3 := Nat.eq_of_beq_eq_true d3
               have d4 := Nat.eq_of_beq_eq_true d4
               have d5 := Nat.eq_of_beq_eq_true d5
               have d6 := Nat.eq_of_beq_eq_true d6
               have d7 := Nat.eq_of_beq_eq_true d7
               subst d2; subst d3; subst d4
               rw [d5] at hb; rw [d6] at hx; rw [d7] at hy
               have hkey := hk _ (List.mem_singleton.2 rfl)
               simp only [ni_, List.cons.injEq, V.sl.injEq, V.k.injEq, Value.int.injEq, true_and, and_true] at hkey
               obtain ⟨rfl, e1, e2, e3⟩ := hkey
               have e1 : k = k0 := by omega
               have e2 : j = j0 := by omega
               have e3 : n2 = n1 := by omega
               subst e1; subst e2; subst e3
               have hbb := hr b (by simp)
               have hlive : h b ≠ .dead := by rw [hbb, hb]; intro e; cases e
               obtain ⟨v1, xs, h1, h2, h3, h4, h5⟩ := K.rw b U' i.size l (hbb.trans hb)
               obtain ⟨hdd, hmm⟩ := hn σ.h.length (by simp) (Nat.le_refl _)
               have hib : σ.h.length ≠ b := fun e => by rw [← e, hmm] at h1; cases h1
               have hpos : 0 < l.length := by omega
               obtain ⟨g, cap, rfl, hcap, hmax, hBg, hgs⟩ := own_pos h3 hpos
               generalize hxv : a.eval x = u at hx
               generalize hyv : a.eval y = v at hy
               cases hx with
               | os _ _ _ _ _ g1 nn1 c1 hm1 p1 p2 =>
                cases hy with
                | os _ _ _ _ _ g2 nn2 c2' hm2 p3 p4 =>
                 rw [h1] at hm1 hm2
                 injection hm1 with hm1
                 injection hm1 with a1 a2 a3
                 injection a1 with a1
                 injection a1 with a1
                 injection hm2 with hm2
                 injection hm2 with b1 b2 b3
                 injection b1 with b1
                 injection b1 with b1
                 subst a1; subst a2; subst a3; subst b1; subst b2; subst b3
                 have hu : (Value.slice (if cap = 0 then some ⟨g, 0, none⟩ else some ⟨g, 0 * i.size, none⟩) (k - 0) (cap - 0)) = .slice (some ⟨g, 0, none⟩) k cap := by simp
                 have hv : (Value.slice (if cap = j then some ⟨g, 0, none⟩ else some ⟨g, j * i.size, none⟩) (n2 - j) (cap - j)) = .slice (some ⟨g, j * i.size, none⟩) (n2 - j) (cap - j) := by rw [if_neg (by omega)]
                 rw [hu] at hxv
                 rw [hv] at hyv
                 have hxl : xs.length = l.length * i.size := h3.1
                 have m1 : k * i.size ≤ l.length * i.size := Nat.mul_le_mul_right _ hk0
                 have m2 : n2 * i.size ≤ l.length * i.size := Nat.mul_le_mul_right _ hj0.2
                 have m3 : j * i.size + (n2 - j) * i.size = n2 * i.size := by rw [← Nat.add_mul]; congr 1; omega
                 have hown : w.ownsRow B U' i.size (.slice (some ⟨g, 0, none⟩) k cap) k (xs.take (k * i.size)) := by
                  refine ⟨by rw [List.length_take]; omega, ?_⟩
                  rcases h3.2 with ⟨h6, h7⟩ | ⟨g', cap', cur, hv', q1, q2, q3, q4, q5, q6⟩
                  · omega
                  · injection hv' with r1 r2 r3
                    injection r1 with r1
                    injection r1 with r1
                    subst r1; subst r3
                    exact .inr ⟨g, cap, cur, rfl, q1, q2, by omega, q4, q5, by rw [← q6, List.take_take, Nat.min_eq_left m1]⟩
                 have hlen : l'.length = k + (n2 - j) := by rw [← hll]; simp; omega
                 have hnl : ((xs.drop (j * i.size)).take ((n2 - j) * i.size)).length = (n2 - j) * i.size := by rw [List.length_take, List.length_drop]; omega
                 have hng : ∀ q u, ((xs.drop (j * i.size)).take ((n2 - j) * i.size))[q]? = some u → q < (n2 - j) * i.size ∧ xs[j * i.size + q]? = some u := fun q u hq => by
                  rw [List.getElem?_take] at hq
                  split at hq
                  · rw [List.getElem?_drop] at hq; exact ⟨by assumption, hq⟩
                  · cases hq
                 refine fin (news := (xs.drop (j * i.size)).take ((n2 - j) * i.size)) ⟨_, _, _, rfl⟩ hxv hyv hown hnl (fun q u hq => ?_) (fun u hu => h4 u (List.mem_of_mem_drop (List.mem_of_mem_take hu))) (by omega) (by omega) (Nat.le_trans (Nat.mul_le_mul_right _ (by omega)) hlim.1) fun u' w' r2 r3 r4 r5 => ?_
                 · have := own_cells h3 _ _ (hng q u hq).2
                   rw [Addr.add_lit] at this ⊢
                   rwa [Nat.zero_add] at this
                 · have hkp : s = false → Kp w w' := fun es => kp_grown r3 fun g2 cs fr hg hh => by
                    simp only [Value.ownBlock, Option.some.injEq] at hg
                    subst hg
                    rcases h3.2 with ⟨h6, h7⟩ | ⟨g', cap', cur, hv', q1, q2, _⟩
                    · omega
                    · injection hv' with r1' _ _
                      injection r1' with r1'
                      injection r1' with r1'
                      subst r1'
                      rw [q2] at hh
                      injection hh with hh
                      injection hh with _ hh
                      subst es
                      subst hh
                      simp at d1
                   obtain ⟨t1, t2⟩ := K.app (x := .rw U' i.size l') hlive h1 (blk_own _ ⟨_, _, _, rfl⟩) hib hdd hmm r3 r5 hkp (fun _ _ e => by cases e) (fun T z l2 e => by
                    injection e with e1 e2 e3
                    subst e1; subst e2; subst e3
                    refine ⟨_, fun cs hcs => ?_, by rw [hlen]; exact r2, fun u hu => ?_, fun q y' hq => ?_⟩
                    · rw [← hll] at hcs
                      rcases List.mem_append.1 hcs with h8 | h8
                      · exact h2 cs (List.mem_of_mem_take h8)
                      · exact h2 cs (List.mem_of_mem_take (List.mem_of_mem_drop h8))
                    · rcases List.mem_append.1 hu with h8 | h8
                      · exact h4 u (List.mem_of_mem_take h8)
                      · exact h4 u (List.mem_of_mem_drop (List.mem_of_mem_take h8))
                    · rw [← hll, List.flatten_append, (flat_take k h2).1, (flat_take j (l := l.take n2) fun cs hcs => h2 cs (List.mem_of_mem_take hcs)).2, (flat_take n2 h2).1] at hq
                      have hfl : (l.flatten.take (k * i.size)).length = k * i.size := by rw [List.length_take, flat_len h2]; omega
                      have hxl2 : (xs.take (k * i.size)).length = k * i.size := hown.1
                      rcases Nat.lt_or_ge q (k * i.size) with h8 | h8
                      · rw [List.getElem?_append_left (by omega), List.getElem?_take, if_pos h8] at hq
                        rw [List.getD_eq_getElem?_getD, List.getElem?_append_left (by omega), List.getElem?_take, if_pos h8, ← List.getD_eq_getElem?_getD]
                        exact h5 q y' hq
                      · rw [List.getElem?_append_right (by omega), hfl, List.getElem?_drop, List.getElem?_take] at hq
                        split at hq
                        · rename_i h9
                          rw [List.getD_eq_getElem?_getD, List.getElem?_append_right (by omega), hxl2, List.getElem?_take, if_pos (by omega), List.getElem?_drop, ← List.getD_eq_getElem?_getD]
                          exact h5 _ y' hq
                        · cases hq) (fun _ e => by cases e)
                   obtain ⟨A', c', r4⟩ := r4
                   subst r4
                   refine ⟨_, t1, .ow _ _ _ _ _ upd_eq, t2, (Below.refl _ _).grown r3 K.bs fun k' hk' => (K.blk hlive h1 ((blk_own _ ⟨_, _, _, rfl⟩).trans hk')).1, fun c hc => ?_⟩
                   by_cases e : c = σ.h.length
                   · subst e; exact .inr (by simp)
                   · rw [upd_ne e] at hc; exact .inl hc
             · cases e
           · rename_i U' z' l l0 l' k0 j0 hll hk0 h00 sc' hb
             split at e
             · rename_i hcc
               injection e with e
               subst e
               simp only [Bool.and_eq_true] at hcc
               obtain ⟨d2, d3, d4, d5, d6, d7⟩ := hcc
               have d2 := Nat.eq_of_beq_eq_true d2
               have d3 := Nat.eq_of_beq_eq_true d3
               have d4 := Nat.eq_of_beq_eq_true d4
               have d5 := Nat.eq_of_beq_eq_true d5
               have d6 := Nat.eq_of_beq_eq_true d6
               have d7 := Nat.eq_of_beq_eq_true d7
               subst d2; subst d3; subst d4
               rw [d5] at hb; rw [d6] at hx; rw [d7] at hy
               have hkey := hk _ (List.mem_singleton.2 rfl)
               simp only [ni_, List.cons.injEq, V.sl.injEq, V.k.injEq, Value.int.injEq, true_and, and_true] at hkey
               obtain ⟨rfl, e1, e2, e3⟩ := hkey
               have e1 : k = k0 := by omega
               have e2 : j = j0 := by omega
               have e3 : n2 = j0 := by omega
               subst e1; subst e2; subst e3
               have hbb := hr b (by simp)
               have hlive : h b ≠ .dead := by rw [hbb, hb]; intro e; cases e
               obtain ⟨v1, xs, h1, h2, h3, h4, h5⟩ := K.rw b U' i.size l (hbb.trans hb)
               obtain ⟨hdd, hmm⟩ := hn σ.h.length (by simp) (Nat.le_refl _)
               have hib : σ.h.length ≠ b := fun e => by rw [← e, hmm] at h1; cases h1
               obtain ⟨g, cap, rfl, hcap, hmax, hBg, hgs⟩ := own_pos h3 h00
               generalize hxv : a.eval x = u at hx
               generalize hyv : a.eval y = v at hy
               cases hx with
               | os _ _ _ _ _ g1 nn1 c1 hm1 p1 p2 =>
                cases hy with
                | os _ _ _ _ _ g2 nn2 c2' hm2 p3 p4 =>
                 rw [h1] at hm1
                 injection hm1 with hm1
                 injection hm1 with a1 a2 a3
                 injection a1 with a1
                 injection a1 with a1
                 subst a1; subst a2; subst a3
                 have hu : (Value.slice (if cap = 0 then some ⟨g, 0, none⟩ else some ⟨g, 0 * i.size, none⟩) (k - 0) (cap - 0)) = .slice (some ⟨g, 0, none⟩) k cap := by simp
                 rw [hu] at hxv
                 have m1 : k * i.size ≤ l.length * i.size := Nat.mul_le_mul_right _ hk0
                 have hxl : xs.length = l.length * i.size := h3.1
                 have hlen : l'.length = k := by rw [← hll, List.length_take]; omega
                 have hown : w.ownsRow B U' i.size (.slice (some ⟨g, 0, none⟩) k cap) k (xs.take (k * i.size)) := by
                  refine ⟨by rw [List.length_take]; omega, ?_⟩
                  rcases h3.2 with ⟨h6, h7⟩ | ⟨g', cap', cur, hv', q1, q2, q3, q4, q5, q6⟩
                  · omega
                  · injection hv' with r1 r2 r3
                    injection r1 with r1
                    injection r1 with r1
                    subst r1; subst r3
                    exact .inr ⟨g, cap, cur, rfl, q1, q2, by omega, q4, q5, by rw [← q6, List.take_take, Nat.min_eq_left m1]⟩
                 have hsz : szT P U' = some i.size := by simp [szT, i1]
                 obtain ⟨t1, t2⟩ := K.app (w' := w) (u' := .slice (some ⟨g, 0, none⟩) k cap) (x := .rw U' i.size l') hlive h1 (blk_own _ ⟨_, _, _, rfl⟩) hib hdd hmm (World.grownBy_refl w _) (fun g hg => .inl hg) (fun _ => Kp.refl _) (fun _ _ e => by cases e) (fun T z l2 e => by
                  injection e with e1 e2 e3
                  subst e1; subst e2; subst e3
                  refine ⟨_, fun cs hcs => ?_, by rw [hlen]; exact hown, fun u hu => h4 u (List.mem_of_mem_take hu), fun q y' hq => ?_⟩
                  · rw [← hll] at hcs; exact h2 cs (List.mem_of_mem_take hcs)
                  · rw [← hll, (flat_take k h2).1, List.getElem?_take] at hq
                    split at hq
                    · rename_i h8
                      rw [List.getD_eq_getElem?_getD, List.getElem?_take, if_pos h8, ← List.getD_eq_getElem?_getD]
                      exact h5 q y' hq
                    · cases hq) (fun _ e => by cases e)
                 refine Exec.val (w' := w) (hexec (u := .slice (some ⟨g, 0, none⟩) k cap) ?_) ⟨_, t1, .ow _ _ _ _ _ upd_eq, t2, Below.refl _ _, fun c hc => ?_⟩
                 · rw [hxv, hyv, Nat.sub_self]
                   split <;> exact append_none hd hsz (by omega)
                 · by_cases e : c = σ.h.length
                   · subst e; exact .inr (by simp)
                   · rw [upd_ne e] at hc; exact .inl hc
             · cases e
           · cases e
         · cases e
       · rename_i l2 hye
         rw [hye] at hy
         split at e
         · rename_i k9 hnil sc'
           split at e
           · rename_i b hxe
             rw [hxe] at hx
             split at e
             · rename_i U zz l hb
               injection e with e
               subst e
               have hkey := hk _ (List.mem_singleton.2 rfl)
               simp only [List.cons.injEq, V.sl.injEq, and_true] at hkey
               subst hkey
               subst hnil
               obtain ⟨v1, xs, h1, h2, h3, h4, h5⟩ := K.rw b U zz l ((hr b (by simp)).trans hb)
               generalize hxv : a.eval x = u at hx
               generalize hyv : a.eval y = v at hy
               cases hx with
               | ow _ _ ad k2 c2 hm2 =>
                 cases hy with
                 | sl _ ad2 b2 off c3 z3 _ us q1 q2 q3 q4 q5 q6 =>
                   have hle : k2 ≤ c2 := by
                    rw [h1] at hm2
                    injection hm2 with hm2
                    subst hm2
                    rcases h3.2 with ⟨h6, h7⟩ | ⟨g', cap', cur, h6, _, _, h7, _⟩
                    · injection h6 with _ e1 e2; omega
                    · injection h6 with _ e1 e2; omega
                   have hsz : szT P el = some i.size := by simp [szT, i1]
                   refine Exec.val (w' := w) (hexec (u := .slice ad k2 c2) ?_) (.same K (.ow _ _ _ _ _ hm2))
                   rw [hxv, hyv]
                   exact append_none hd hsz hle
             · cases e
           · cases e
         · rename_i l0 k9 l' n0 z0 hll h0 hn0 hz sc'
           split at e
           · rename_i hlim
             simp only [apLim, Bool.and_eq_true, Nat.ble_eq] at hlim
             have hz0 := Nat.eq_of_beq_eq_true hlim.1
             subst hz0
             have hlim : (n0 * i.bytes ≤ 140737488355328 ∧ n0 ≤ maxLen) ∧ (!Nat.beq el 3) = true := hlim.2
             obtain ⟨hlim, hint⟩ := hlim
             have src : l2 = k9 → ∃ A cap xs, a.eval y = .slice (some A) k9.length cap ∧ (∀ cs ∈ k9, cs.length = i.size) ∧ List.length xs = k9.length * i.size ∧ (∀ j u, xs[j]? = some u → w.cell? (A.add j) = some u) ∧ (∀ u ∈ xs, Value.oneCell' u = true) ∧ ∀ (j : Nat) (x : V), k9.flatten[j]? = some x → Rep s w (Av M h m) no (List.getD xs j undef) x := by
              intro hl2
              subst hl2
              generalize hv : a.eval y = u at hy
              cases hy with
              | sl _ ad b off c' zz _ us h1 h2 h3 h4 h5 h6 =>
                obtain ⟨rfl, hA, hB⟩ := h3 h0
                have hzz : zz = i.size := by
                 have h7 := List.getElem_mem (l := l2) h0
                 rw [← h4 _ h7, (hz _ h7).1]
                subst hzz
                have hlen' : ∀ cs ∈ l2, cs.length = i.size := fun cs hcs => (hz cs hcs).1
                have hcell : ∀ j, j < l2.length * i.size → ∃ cs x, l2[j / i.size]? = some cs ∧ cs[j % i.size]? = some x := fun j hj => by
                 have q1 : j / i.size < l2.length := (Nat.div_lt_iff_lt_mul i4).2 hj
                 have q2 : j % i.size < i.size := Nat.mod_lt _ i4
                 refine ⟨_, _, List.getElem?_eq_getElem q1, List.getElem?_eq_getElem (by rw [hlen' _ (List.getElem_mem _)]; exact q2)⟩
                have hdm : ∀ j, (j / i.size) * i.size + j % i.size = j := fun j => by rw [Nat.mul_comm]; exact Nat.div_add_mod j i.size
                have hget : ∀ j, j < l2.length * i.size → ((List.range (l2.length * i.size)).map fun q => us (q / i.size) (q % i.size))[j]? = some (us (j / i.size) (j % i.size)) := fun j hj => by
                 rw [List.getElem?_map, List.getElem?_range hj]; rfl
                refine ⟨⟨b, off, none⟩, c', (List.range (l2.length * i.size)).map fun q => us (q / i.size) (q % i.size), rfl, hlen', by simp, fun j u' hu => ?_, fun u' hu => ?_, fun j x hx => ?_⟩
                · have hj : j < l2.length * i.size := by have := (List.getElem?_eq_some_iff.1 hu).1; simpa using this
                  rw [hget j hj] at hu
                  injection hu with hu
                  subst hu
                  obtain ⟨cs, x, g1, g2⟩ := hcell j hj
                  have := h5 _ _ cs x g1 g2
                  rw [Nat.add_assoc, hdm] at this
                  rw [Addr.add_lit]
                  exact this
                · obtain ⟨q, hq, rfl⟩ := List.mem_map.1 hu
                  obtain ⟨cs, x, g1, g2⟩ := hcell q (by simpa using hq)
                  have h8 := (hz cs (List.mem_of_getElem? g1)).2
                  rw [List.all_eq_true] at h8
                  exact one_cell (h6 _ _ cs x g1 g2) (h8 x (List.mem_of_getElem? g2))
                · have hj : j < l2.length * i.size := by
                   have := (List.getElem?_eq_some_iff.1 hx).1
                   rwa [flat_len hlen'] at this
                  rw [List.getD_eq_getElem?_getD, hget j hj]
                  obtain ⟨cs, y', g1, g2⟩ := hcell j hj
                  have h8 := flat_get hlen' g1 g2
                  rw [hdm, hx] at h8
                  injection h8 with h8
                  subst h8
                  exact h6 _ _ cs x g1 g2
             have hlen : l'.length = l0.length + k9.length := by rw [← hll, List.length_append]
             have kc : l0.length + k9.length ≤ maxLen := by omega
             have hb2' : (l0.length + k9.length) * i.bytes ≤ 140737488355328 := Nat.le_trans (Nat.mul_le_mul_right _ (by omega)) hlim.1
             -- the new row
             have row : ∀ {xs news : List Value} {w' : World} {u' : Value}, (∀ cs ∈ l0, cs.length = i.size) → (∀ cs ∈ k9, cs.length = i.size) → xs.length = l0.length * i.size → (∀ u ∈ xs, u.oneCell' = true) → (∀ u ∈ news, u.oneCell' = true) → (∀ (j : Nat) (x : V), l0.flatten[j]? = some x → Rep s w (Av M h m) no (xs.getD j undef) x) → (∀ (j : Nat) (x : V), k9.flatten[j]? = some x → Rep s w (Av M h m) no (news.getD j undef) x) → w'.ownsRow B el i.size u' (l0.length + k9.length) (xs ++ news) →
               ∀ T z l, HO.rw el i.size l' = .rw T z l → ∃ xs, (∀ cs ∈ l, cs.length = z) ∧ w'.ownsRow B T z u' l.length xs ∧ (∀ u ∈ xs, u.oneCell' = true) ∧ ∀ j x, l.flatten[j]? = some x → Rep s w (Av M h m) no (xs.getD j undef) x := by
              intro xs news w' u' k1 k2 k3 k4 k5 k6 k7 k8 T z l e
              injection e with e1 e2 e3
              subst e1; subst e2; subst e3
              refine ⟨xs ++ news, fun cs hcs => ?_, by rw [hlen]; exact k8, fun u hu => (List.mem_append.1 hu).elim (k4 u) (k5 u), fun j x hx => ?_⟩
              · rw [← hll] at hcs
                exact (List.mem_append.1 hcs).elim (k1 cs) (k2 cs)
              · rw [← hll, List.flatten_append] at hx
                have hfl := flat_len k1
                rcases Nat.lt_or_ge j l0.flatten.length with hj | hj
                · rw [List.getElem?_append_left hj] at hx
                  rw [List.getD_eq_getElem?_getD, List.getElem?_append_left (by omega), ← List.getD_eq_getElem?_getD]
                  exact k6 j x hx
                · rw [List.getElem?_append_right hj] at hx
                  rw [List.getD_eq_getElem?_getD, List.getElem?_append_right (by omega), ← List.getD_eq_getElem?_getD, show xs.length = l0.flatten.length by omega]
                  exact k7 _ x hx
             split at e
             · rename_i b hxe
               rw [hxe] at hx
               split at e
               · rename_i U' z l hb
                 split at e
                 · rename_i hcc
                   simp only [Bool.and_eq_true] at hcc
                   have hU' := Nat.eq_of_beq_eq_true hcc.1
                   have hz' := Nat.eq_of_beq_eq_true hcc.2
                   subst hU'; subst hz'
                   injection e with e
                   subst e
                   have hkey := hk _ (List.mem_singleton.2 rfl)
                   simp only [List.cons.injEq, V.sl.injEq, and_true] at hkey
                   obtain ⟨rfl, rfl⟩ := hkey
                   obtain ⟨A, cap, news, s1, s2, s3, s4, s5, s6⟩ := src rfl
                   have hbb := hr b (by simp)
                   have hlive : h b ≠ .dead := by rw [hbb, hb]; intro e; cases e
                   obtain ⟨v1, xs, h1, h2, h3, h4, h5⟩ := K.rw b U' i.size l (hbb.trans hb)
                   obtain ⟨hdd, hmm⟩ := hn σ.h.length (by simp) (Nat.le_refl _)
                   have hib : σ.h.length ≠ b := fun e => by rw [← e, hmm] at h1; cases h1
                   generalize hxv : a.eval x = u at hx
                   cases hx with
                   | ow _ _ ad k2 c2 hm2 =>
                     rw [h1] at hm2
                     injection hm2 with hm2
                     subst hm2
                     refine fin ⟨_, _, _, rfl⟩ hxv s1 h3 s3 s4 s5 h0 kc hb2' fun u' w' r2 r3 r4 r5 => ?_
                     have hkp : s = false → Kp w w' := fun es => kp_grown r3 fun g cs fr hg hh => by
                      rcases h3.2 with ⟨h6, _⟩ | ⟨g', cap', cur, h6, _, h7, _⟩
                      · rw [h6] at hg; cases hg
                      · rw [h6] at hg
                        simp only [Value.ownBlock, Option.some.injEq] at hg
                        subst hg
                        rw [h7] at hh
                        injection hh with hh
                        injection hh with _ hh
                        have ke := hint
                        subst es
                        subst hh
                        simp at ke
                     obtain ⟨t1, t2⟩ := K.app (x := .rw U' i.size l') hlive h1 (blk_own _ ⟨_, _, _, rfl⟩) hib hdd hmm r3 r5 hkp (fun _ _ e => by cases e) (row h2 s2 h3.1 h4 s5 h5 s6 r2) (fun _ e => by cases e)
                     obtain ⟨A', c', r4⟩ := r4
                     subst r4
                     refine ⟨_, t1, .ow _ _ _ _ _ upd_eq, t2, (Below.refl _ _).grown r3 K.bs fun k hk => (K.blk hlive h1 ((blk_own _ ⟨_, _, _, rfl⟩).trans hk)).1, fun c hc => ?_⟩
                     by_cases e : c = σ.h.length
                     · subst e; exact .inr (by simp)
                     · rw [upd_ne e] at hc; exact .inl hc
                 · cases e
               · cases e
             · rename_i fl hxe
               rw [hxe] at hx
               injection e with e
               subst e
               have hkey := hk _ (List.mem_singleton.2 rfl)
               simp only [List.cons.injEq, V.sl.injEq, and_true] at hkey
               obtain ⟨hl0, rfl⟩ := hkey
               subst hl0
               obtain ⟨A, cap, news, s1, s2, s3, s4, s5, s6⟩ := src rfl
               obtain ⟨hdd, hmm⟩ := hn σ.h.length (by simp) (Nat.le_refl _)
               generalize hxv : a.eval x = u at hx
               cases hx with
               | nl =>
                 refine fin ⟨_, _, _, rfl⟩ hxv s1 (World.ownsRow_nil w B el i.size) s3 s4 s5 h0 kc hb2' fun u' w' r2 r3 r4 r5 => ?_
                 have hbel : Below w.heap.size w w' := (Below.refl _ _).grown r3 (Nat.le_refl _) fun k hk => by cases hk
                 have hu : ∀ g, E.blk u' = some g → w.heap.size ≤ g := fun g hg => (r5 g hg).elim (fun e => by cases e) id
                 obtain ⟨A', c', r4⟩ := r4
                 subst r4
                 refine ⟨_, K.new (x := .rw el i.size l') hdd hmm hu hbel (fun _ _ e => by cases e) (row (fun _ h => by simp at h) s2 (by simp) (fun _ h => by simp at h) s5 (fun j x h => by simp at h) s6 r2) (fun _ e => by cases e), .ow _ _ _ _ _ upd_eq, .new hdd hmm hu hbel, hbel.mono K.bs, fun c hc => ?_⟩
                 by_cases e : c = σ.h.length
                 · subst e; exact .inr (by simp)
                 · rw [upd_ne e] at hc; exact .inl hc
             · cases e
           · cases e
         · cases e
       · cases e
     · cases e
   · cases e
 · cases e
/-- **The operations**. -/
theorem aop_ok (K : Ok s B M h m w) (e : aop s P o σ sc = some r) (hk : ∀ p ∈ r.ks, p.1 = p.2) (H : Opd s w (Av M h m) m o a σ) (hr : ∀ b ∈ r.rd, h b = σ.ho b) (hw : ∀ b ∈ r.ws.map (·.1), b < σ.h.length → h b = σ.ho b)
  (hn : ∀ b ∈ r.ws.map (·.1), σ.h.length ≤ b → h b = .dead ∧ m b = none) : Exec P o a w (Post s B M h m w r.ws r.v) := by
 cases ho : o.op with
 | move x => exact move_ok K (.inl ho) (by simpa only [aop, ho] using e) H
 | assign x => exact move_ok K (.inr ho) (by simpa only [aop, ho] using e) H
 | pick c x y => exact pick_ok K ho e H
 | alloc T => exact alloc_ok K ho e hn
 | box T x => exact box_ok K ho e H hn
 | load T x => exact load_ok' K ho e hk H hr
 | store T p x => exact store_ok K ho e hk H hw
 | fieldAddr T x f => exact fieldAddr_ok K ho e H
 | field T x f => exact field_ok K ho e H
 | build T ps => exact build_ok K ho e H
 | makeFunc fn first cs =>
   simp only [aop, ho] at e
   unfold mkF at e
   split at e
   · rename_i f hf
     injection e with e
     subst e
     have hfirst : first = #[] := by apply Array.ext'; simpa using hf
     refine Exec.val (u := .func (.func f) #[] (cs.map a.eval)) (w' := w) (by simp [execOp, ho, Instr.makeFunc, hfirst]) (.same K (.cl _ _ _ _ (by simp) fun j x hx => ?_))
     simp only [List.getElem?_map, Option.map_eq_some_iff] at hx
     obtain ⟨y, hy, rfl⟩ := hx
     rw [Array.getD_eq_getD_getElem?, Array.getElem?_map, ← Array.getElem?_toList, hy]
     exact H.ev (by rw [ho]; simp only [Op.operands, Array.toList_append]; exact List.mem_append.2 (.inr (List.mem_of_getElem? hy)))
   · cases e
 | buildSlice T len ps => exact buildSlice_ok K ho e H hn
 | binOp op T x y U =>
   refine purely_ok K (xs := [x, y]) (by simpa only [aop, ho] using e) (fun z hz => H.ev (by rw [ho]; simpa [Op.operands] using hz)) fun ρ ρ' hq => ?_
   simp only [execOp, ho, hq x (by simp), hq y (by simp)]
 | unOp op T x =>
   refine purely_ok K (xs := [x]) (by simpa only [aop, ho] using e) (fun z hz => H.ev (by rw [ho]; simpa [Op.operands] using hz)) fun ρ ρ' hq => ?_
   simp only [execOp, ho, hq x (by simp)]
 | convert T U x =>
   refine purely_ok K (xs := [x]) (by simpa only [aop, ho] using e) (fun z hz => H.ev (by rw [ho]; simpa [Op.operands] using hz)) fun ρ ρ' hq => ?_
   simp only [execOp, ho, hq x (by simp)]
 | indexAddr T x i => exact indexAddr_ok K ho e hk H hr
 | extract x i => exact extract_ok K ho e H
 | slice T x lo hi mx => exact slice_ok K ho e hk H hr
 | call c =>
   cases hc : c.callee with
   | value f => exact call_ok K ho hc e hk H hr
   | builtin b =>
     cases b with
     | len => exact len_ok K ho hc e H hr
     | append => exact append_ok K ho hc e hk H hr hw hn
     | _ => simp [aop, ho, hc] at e
   | invoke x n => simp [aop, ho, hc] at e
 | _ => simp [aop, ho] at e
end
end Go.Proofs.YtcfejkpadcccbaaGreat.E
