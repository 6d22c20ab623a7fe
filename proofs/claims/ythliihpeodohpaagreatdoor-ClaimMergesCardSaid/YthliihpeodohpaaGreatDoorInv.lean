/-
 A REGION THAT DRAWS ITS ORDER, BY AN INVARIANT: each operation is shown once, whatever was done before it; no order is walked.
-/
import Derived.Calls
import Derived.Test.YthliihpeodohpaaGreatDoorRows
import Derived.Orders
import Derived.WalkKit
namespace Go.Proofs.YthliihpeodohpaaGreatDoor.Dr
open Go
set_option linter.unusedVariables false
set_option linter.unusedSimpArgs false
def R {α : Type} (n : Nat) : Result α → Prop
 | .ok _ w => n ≤ w.drawn
 | .halt _ w => n ≤ w.drawn
theorem R.le {α : Type} {n m : Nat} {r : Result α} (h : R m r) (hm : n ≤ m) : R n r := by
 cases r <;> exact Nat.le_trans hm h
theorem ask_dr {α : Type} : ∀ (x : Ask α) (w : World), w.drawn ≤ (w.ask x).2.drawn
 | .done a, w => by simp [World.ask]
 | .ask what range k, w => by
  unfold World.ask
  dsimp only
  split
  · exact ask_dr _ _
  · exact Nat.le_trans (Nat.le_succ w.drawn) (ask_dr _ { w with drawn := w.drawn + 1 })
theorem sys_dr (w : World) (c : Sys) : w.drawn ≤ (w.sys c).2.drawn := by
 have h := ask_dr (Kernel.perform c w.os) w
 unfold World.sys
 split
 · exact Nat.le_refl _
 · rename_i e
   rw [e] at h
   exact h
theorem freeze_dr (w : World) (a : Addr) (n : Nat) : (w.freeze a n).drawn = w.drawn := by
 unfold World.freeze
 (repeat' split) <;> rfl
theorem view_dr {p : Program} {w w' : World} {at_ k : Addr} {u : TypeId} {v : Value} {b : Bool} {l : List Addr} (h : w.viewStore p at_ u k v b = .ok (w', l)) : w'.drawn = w.drawn := by
 unfold World.viewStore at h
 simp only [bind, Except.bind, pure, Except.pure, throw, throwThe, MonadExceptOf.throw] at h
 repeat' (split at h)
 all_goals first
  | (cases h; done)
  | (injection h with h; injection h with h1 h2; subst h1; rfl)
  | skip
theorem far_dr {p : Program} {w w' : World} {a : Addr} {v : Value} {b : Bool} {l : List Addr} (h : w.farStore p a v b = .ok (w', l)) : w'.drawn = w.drawn := by
 unfold World.farStore at h
 split at h
 · split at h
   · rename_i e
     injection h with h
     subst h
     exact view_dr e
   · cases h
 · cases h
theorem run_dr {α : Type} (p : Program) : ∀ (x : Sem α) (w : World), R w.drawn (x.run p w)
 | .pure a, w => Nat.le_refl _
 | .load m a k, w => by
  simp only [Sem.run]
  split
  · exact run_dr p _ w
  · split
    · exact run_dr p _ w
    · exact Nat.le_refl _
 | .store m a v k, w => by
  have key : R w.drawn (match w.cell? a with
    | some _ => if w.frozen? a then .halt (.unsupported (.unsafePointer "a write to bytes that a string shares")) w else k.run p (w.setCell a v)
    | none => match w.farStore p a v (m == .atomic) with
      | .ok (w, _) => k.run p w
      | .error h => .halt h w) := by
   split
   · split
     · exact Nat.le_refl _
     · exact run_dr p k (w.setCell a v)
   · split
     · rename_i w2 tch e
       have := run_dr p k w2
       rw [far_dr e] at this
       exact this
     · exact Nat.le_refl _
  cases v <;> simp only [Sem.run] <;> first | exact key | exact Nat.le_refl _
 | .new o k, w => run_dr p (k w.heap.size) { w with heap := w.heap.push o }
 | .shape r k, w => run_dr p (k (w.shape? r)) w
 | .freeze a n k, w => by
  have := run_dr p k (w.freeze a n)
  rw [freeze_dr] at this
  exact this
 | .frozen a k, w => run_dr p (k (w.frozen? a)) w
 | .getObj r k, w => by
  simp only [Sem.run]
  split
  · exact Nat.le_refl _
  · exact run_dr p _ w
  · exact Nat.le_refl _
 | .setObj r o k, w => by
  simp only [Sem.run]
  split
  · exact Nat.le_refl _
  · exact run_dr p k { w with heap := w.heap.setIfInBounds r o }
  · exact Nat.le_refl _
 | .choose q k, w => by
  simp only [Sem.run]
  split
  · exact run_dr p _ w
  · exact (run_dr p (k (q.cut (w.tape w.drawn q))) { w with drawn := w.drawn + 1 }).le (Nat.le_succ w.drawn)
 | .sys c k, w => (run_dr p (k (w.sys c).1) (w.sys c).2).le (sys_dr w c)
 | .program k, w => run_dr p (k p) w
 | .mark m k, w => run_dr p k w
 | .halt h, w => Nat.le_refl _
theorem runT_dr {α : Type} (p : Program) : ∀ (x : Sem α) (w : World) (es : Array Event), R w.drawn (x.runT p w es).1
 | .pure a, w, es => Nat.le_refl _
 | .load m a k, w, es => by
  simp only [Sem.runT]
  split
  · exact runT_dr p _ w _
  · split
    · exact runT_dr p _ w _
    · exact Nat.le_refl _
 | .store m a v k, w, es => by
  cases v
  all_goals simp only [Sem.runT]
  all_goals first
   | exact Nat.le_refl w.drawn
   | (split
      · split
        · exact Nat.le_refl w.drawn
        · exact runT_dr p k (w.setCell a _) _
      · split
        · rename_i w2 tch e
          have := runT_dr p k w2 (es ++ tch.toArray.map (⟨.cell ·, true, m == .atomic⟩))
          rw [far_dr e] at this
          exact this
        · exact Nat.le_refl w.drawn)
 | .new o k, w, es => runT_dr p (k w.heap.size) { w with heap := w.heap.push o } es
 | .shape r k, w, es => runT_dr p (k (w.shape? r)) w es
 | .freeze a n k, w, es => by
  have := runT_dr p k (w.freeze a n) es
  rw [freeze_dr] at this
  exact this
 | .frozen a k, w, es => runT_dr p (k (w.frozen? a)) w es
 | .getObj r k, w, es => by
  simp only [Sem.runT]
  split
  · exact Nat.le_refl _
  · exact runT_dr p _ w _
  · exact Nat.le_refl _
 | .setObj r o k, w, es => by
  simp only [Sem.runT]
  split
  · exact Nat.le_refl _
  · exact runT_dr p k { w with heap := w.heap.setIfInBounds r o } _
  · exact Nat.le_refl _
 | .choose q k, w, es => by
  simp only [Sem.runT]
  split
  · exact runT_dr p _ w es
  · exact (runT_dr p (k (q.cut (w.tape w.drawn q))) { w with drawn := w.drawn + 1 } es).le (Nat.le_succ w.drawn)
 | .sys c k, w, es => (runT_dr p (k (w.sys c).1) (w.sys c).2 _).le (sys_dr w c)
 | .program k, w, es => runT_dr p (k p) w es
 | .mark m k, w, es => runT_dr p k w _
 | .halt h, w, es => Nat.le_refl _
end Go.Proofs.YthliihpeodohpaaGreatDoor.Dr
namespace Go.Proofs.YthliihpeodohpaaGreatDoor.Dr
open Go
set_option linter.unusedVariables false
set_option linter.unusedSimpArgs false
def G (n : Nat) : GStep → Prop
 | .go _ w _ => n ≤ w.drawn
 | .comm _ _ _ _ w _ => n ≤ w.drawn
 | .spawn _ _ w _ => n ≤ w.drawn
 | .count _ w _ => n ≤ w.drawn
 | .timer _ _ w _ => n ≤ w.drawn
 | .alone _ _ w _ => n ≤ w.drawn
 | .newcoro _ _ _ w _ => n ≤ w.drawn
 | .coroswitch _ _ _ w _ => n ≤ w.drawn
 | .collect _ w _ => n ≤ w.drawn
 | .watch _ w _ => n ≤ w.drawn
 | .ended _ _ _ => True
theorem G.after {n : Nat} {s : GStep} {es : Array Event} (h : G n s) : G n (s.after es) := by
 cases s <;> exact h
theorem G.le {n m : Nat} {s : GStep} (h : G m s) (hm : n ≤ m) : G n s := by
 cases s <;> first | exact Nat.le_trans hm h | exact trivial
section
variable {α : Type} {p : Program} {x : Sem α} {w w' : World} {a : α} {h : Halt} {es es' : Array Event}
theorem ok_dr (e : x.run p w = .ok a w') : w.drawn ≤ w'.drawn := by
 have := run_dr p x w
 rw [e] at this
 exact this
theorem halt_dr (e : x.run p w = .halt h w') : w.drawn ≤ w'.drawn := by
 have := run_dr p x w
 rw [e] at this
 exact this
theorem okT_dr (e : x.runT p w es = (.ok a w', es')) : w.drawn ≤ w'.drawn := by
 have := runT_dr p x w es
 rw [e] at this
 exact this
theorem haltT_dr (e : x.runT p w es = (.halt h w', es')) : w.drawn ≤ w'.drawn := by
 have := runT_dr p x w es
 rw [e] at this
 exact this
end
section
variable {p : Program} {fr : Frame} {callers : List Frame} {dying : Option Dying} {w : World} {b : Bool}
theorem endThrow_dr (m : String) : G w.drawn (endThrow fr m w) := Nat.le_refl _
theorem endWith_dr (fd : Nat) (t : ByteArray) (o : Outcome) : G w.drawn (endWith w fd t o) := by
 unfold endWith
 dsimp only
 repeat' split
 all_goals exact trivial
theorem endPrinting_dr (v : Value) : G w.drawn (endPrinting p fr v w) := by
 unfold endPrinting
 dsimp only
 split
 · exact Nat.le_refl _
 · exact trivial
theorem endFatal_dr (m : String) : G w.drawn (endFatal p fr callers dying m w) := by
 unfold endFatal
 dsimp only
 split
 · exact ok_dr (by assumption)
 · exact trivial
 · exact trivial
theorem writeOn_dr (d : Dying) (f : Fatal) : G w.drawn (writeOn p fr d f w) := by
 unfold writeOn
 dsimp only
 split
 · exact trivial
 · split
   · exact okT_dr (by assumption)
   · exact haltT_dr (by assumption)
   · exact trivial
   · exact trivial
theorem die_dr (d : Dying) : G w.drawn (die p fr d w) := by
 unfold die
 dsimp only
 split
 · exact writeOn_dr _ _
 · split
   · split
     · exact Nat.le_refl _
     · exact endWith_dr _ _ _
   · split
     · exact Nat.le_refl _
     · split
       · exact ok_dr (by assumption)
       · exact trivial
     · refine G.after ?_
       split
       · rename_i e
         exact okT_dr (Prod.ext e rfl)
       · rename_i e
         exact okT_dr (Prod.ext e rfl)
       · exact trivial
       · rename_i e
         exact (endPrinting_dr _).le (haltT_dr (Prod.ext e rfl))
       · exact trivial
     · exact trivial
theorem doReturn_dr (v : Value) : G w.drawn (doReturn p b fr callers dying v w) := by
 unfold doReturn
 dsimp only
 split
 · split <;> exact Nat.le_refl _
 · split
   · exact Nat.le_refl _
   · exact trivial
   · split
     · exact Nat.le_refl _
     · split
       · exact Nat.le_refl _
       · exact trivial
theorem callDeferred_dr (d : Deferred) : G w.drawn (callDeferred p fr callers dying d w) := by
 unfold callDeferred
 dsimp only
 have hr := runT_dr p (invoke d.target d.args) w #[]
 revert hr
 generalize (invoke d.target d.args).runT p w #[] = q
 intro hr
 obtain ⟨r, es⟩ := q
 dsimp only at hr ⊢
 (repeat' first | refine G.after ?_ | split) <;> first | exact hr | exact trivial | exact (endFatal_dr _).le hr | exact (endThrow_dr _).le hr
theorem unwind_dr : G w.drawn (unwind p b fr callers dying w) := by
 unfold unwind
 dsimp only
 split
 · refine G.after ?_
   split
   · rename_i e
     exact okT_dr (Prod.ext e rfl)
   · exact trivial
 · exact callDeferred_dr _
 · split
   · exact trivial
   · split
     · exact trivial
     · split
       · exact Nat.le_refl _
       · split
         · split
           · exact Nat.le_refl _
           · split
             · exact ok_dr (by assumption)
             · exact trivial
             · exact trivial
         · split
           · exact endPrinting_dr _
           · exact trivial
   · split
     · exact doReturn_dr _
     · refine G.after ?_
       split
       · rename_i e
         exact (doReturn_dr _).le (okT_dr (Prod.ext e rfl))
       · exact trivial
       · exact trivial
theorem early_dr (g : Nat) : G w.drawn (early p fr callers dying g w) := by
 unfold early
 dsimp only
 (repeat' split) <;> first | exact trivial | exact Nat.le_refl w.drawn | exact ok_dr (by assumption) | (simp only [G]; exact ok_dr (by assumption))
end
end Go.Proofs.YthliihpeodohpaaGreatDoor.Dr
namespace Go.Proofs.YthliihpeodohpaaGreatDoor.Dr
open Go
set_option linter.unusedVariables false
set_option linter.unusedSimpArgs false
section
variable {p : Program} {fr : Frame} {callers : List Frame} {dying : Option Dying} {w : World} {main listen : Bool}
theorem apply_dr (s : Sem Next) : G w.drawn (stepG.apply p listen fr callers dying s w) := by
 unfold stepG.apply
 dsimp only
 have key : ∀ (r : Result Next) (es : Array Event), R w.drawn r → (if listen = true then s.runT p w #[] else (s.run p w, #[])) = (r, es) → G w.drawn (stepG.apply p listen fr callers dying s w) := by
  intro r es hr e
  unfold stepG.apply
  dsimp only
  rw [e]
  dsimp only
  refine G.after ?_
  (repeat' split) <;> first | exact hr | exact trivial | exact (endFatal_dr _).le hr | exact (endThrow_dr _).le hr | exact (early_dr _).le hr
 have := key _ _ ?_ (Prod.eta _).symm
 · unfold stepG.apply at this
   exact this
 · split
   · exact runT_dr p s w #[]
   · exact run_dr p s w
theorem elim_dr {α : Type} {n : Nat} {o : Option α} {s : GStep} {f : α → GStep} (h : G n s) (hf : ∀ y, G n (f y)) : G n (o.elim s f) := by
 cases o
 · exact h
 · exact hf _
theorem oper_dr : G w.drawn (stepG.oper p listen fr callers dying w) := by
 unfold stepG.oper
 split
 · exact trivial
 · split
   · exact apply_dr _
   · exact apply_dr _
theorem exec_dr : G w.drawn (stepG.exec p main listen fr callers dying w) := by
 unfold stepG.exec
 dsimp only
 (repeat' first | with_reducible refine G.after ?_ | with_reducible refine elim_dr ?_ (fun y => ?_) | split) <;> first | exact Nat.le_refl w.drawn | exact trivial | exact apply_dr _ | exact oper_dr | exact ok_dr (by assumption) | exact (doReturn_dr _).le (okT_dr (by assumption)) | exact (apply_dr _).le (okT_dr (by assumption)) | exact okT_dr (by assumption) | exact haltT_dr (by assumption) | (rename_i e; exact (doReturn_dr _).le (okT_dr (Prod.ext e rfl))) | (rename_i e; exact (apply_dr _).le (okT_dr (Prod.ext e rfl))) | (rename_i e; exact okT_dr (Prod.ext e rfl)) | (rename_i e; exact haltT_dr (Prod.ext e rfl)) | skip
end
end Go.Proofs.YthliihpeodohpaaGreatDoor.Dr
namespace Go.Proofs.YthliihpeodohpaaGreatDoor.Dr
open Go
set_option linter.unusedVariables false
set_option linter.unusedSimpArgs false
def S (n : Nat) : Stepped → Prop
 | .next m => n ≤ m.world.drawn
 | .ended _ _ => True
theorem S.le {n m : Nat} {s : Stepped} (h : S m s) (hm : n ≤ m) : S n s := by
 cases s
 · exact Nat.le_trans hm h
 · exact trivial
section
variable {p : Program} {w : World} {main listen : Bool} {m : Machine} {rest : Rest} {gs : Array Goroutine} {i : Nat} {g : Goroutine}
theorem stepG_dr : G w.drawn (stepG p main g w listen) := by
 unfold stepG
 dsimp only
 split
 · exact die_dr _
 · exact exec_dr
 · exact unwind_dr
theorem waiting_dr {cases : Array CommCase} {w' : World} (h : waitingAt rest cases w = some w') : w.drawn = w'.drawn := by
 unfold waitingAt at h
 split at h
 · split at h
   · injection h with h
     subst h
     rfl
   · cases h
 · injection h with h
   subst h
   rfl
theorem communicate_dr (cases : Array CommCase) (blocking : Bool) (shape : CommShape) : S w.drawn (communicate p rest gs i g cases blocking shape w).1 := by
 unfold communicate
 dsimp only
 split
 · exact trivial
 · split
   · split
     · split
       · rename_i e
         exact Nat.le_of_eq (waiting_dr e)
       · exact trivial
     · exact Nat.le_refl _
   · split
     · exact trivial
     · rename_i e
       have h1 := ok_dr e
       split
       · split
         · rename_i e2
           exact Nat.le_trans h1 (halt_dr e2)
         · exact trivial
       · exact h1
       · exact h1
       · split
         · exact h1
         · split
           · rename_i e2
             have h2 := ok_dr e2
             exact Nat.le_trans h1 h2
           · exact trivial
       · exact h1
       · exact h1
       · exact trivial
theorem look_dr : S w.drawn (look p gs rest w) := by
 unfold look
 dsimp only
 (repeat' split) <;> first | exact trivial | exact ok_dr (by assumption) | (simp only [S]; exact ok_dr (by assumption)) | exact Nat.le_refl w.drawn | skip
theorem serve_dr (k : Nat) : S m.world.drawn (serve p m k) := by
 unfold serve
 dsimp only
 (repeat' split) <;> first | exact trivial | exact Nat.le_refl m.world.drawn | skip
theorem retime_dr {k when_ per : Nat} {t : Timer} : (retime m k t when_ per).2.world.drawn = m.world.drawn := by
 unfold retime
 dsimp only
 split
 · unfold drain
   split <;> rfl
 · rfl
theorem opened_dr {var : Addr} {m' : Machine} (h : timerOp.opened m var = some m') : m'.world.drawn = m.world.drawn := by
 unfold timerOp.opened at h
 split at h
 · split at h
   · injection h with h
     subst h
     rfl
   · cases h
 · injection h with h
   subst h
   rfl
theorem named_dr {m0 m' : Machine} {var : Addr} {f : Nat → Timer → Value × Machine} {v : Value} (hf : ∀ k t, (f k t).2.world.drawn = m0.world.drawn) (h : timerOp.named m var f = .ok (v, m')) : m'.world.drawn = m0.world.drawn := by
 unfold timerOp.named at h
 split at h
 · rename_i k _
   injection h with h
   have := hf k (m.rest.timers.getD k default)
   rw [h] at this
   exact this
 · cases h
theorem timerOp_dr {op : TimerOp} {v : Value} {m' : Machine} (h : timerOp m op = .ok (v, m')) : m.world.drawn = m'.world.drawn := by
 unfold timerOp at h
 split at h
 · split at h
   · injection h with h
     injection h with h1 h2
     subst h2
     rfl
   · split at h
     · split at h
       · cases h
       · injection h with h
         injection h with h1 h2
         subst h2
         rfl
     · cases h
 · exact (named_dr (fun k t => retime_dr) h).symm
 · split at h
   · rename_i e
     exact ((named_dr (fun k t => retime_dr) h).trans (opened_dr e)).symm
   · cases h
 · injection h with h
   injection h with h1 h2
   subst h2
   rfl
theorem runM_dr : S m.world.drawn (Go.runT p m i listen).1 := by
 have hs := stepG_dr (p := p) (main := i == 0) (listen := listen) (g := (m.gs.swapAt! i { (default : Goroutine) with status := .finished }).1) (w := m.world)
 unfold Go.runT
 dsimp only
 revert hs
 generalize stepG p (i == 0) (m.gs.swapAt! i { (default : Goroutine) with status := .finished }).1 m.world listen = s
 intro hs
 cases s with
 | ended o w es => exact trivial
 | comm g cases blocking shape w es => exact (communicate_dr cases blocking shape).le hs
 | go g w es => exact hs
 | spawn g child w es => exact hs
 | count g w es =>
  dsimp only
  split
  · exact trivial
  · exact hs
 | alone g on w es => exact hs
 | collect g w es => exact look_dr.le hs
 | watch g w es => exact hs
 | newcoro g c d w es => exact hs
 | coroswitch g c exit w es =>
  dsimp only
  split
  · exact hs
  · split
    · rename_i e
      have := endThrow_dr (fr := g.frame) (w := w) "coroswitch on exited coro"
      rw [e] at this
      exact Nat.le_trans hs this
    · exact trivial
  · exact trivial
 | timer g op w es =>
  dsimp only
  split
  · rename_i e
    have := timerOp_dr e
    exact Nat.le_trans hs (Nat.le_of_eq this)
  · split
    · rename_i e
      have := fun msg => endThrow_dr (fr := g.frame) (w := w) msg
      unfold endThrow dieOf at e
      injection e with e1 e2 e3
      subst e2
      exact hs
    · exact trivial
  · exact trivial
  · exact trivial
end
end Go.Proofs.YthliihpeodohpaaGreatDoor.Dr
namespace Go.Proofs.YthliihpeodohpaaGreatDoor.Dr
open Go
set_option linter.unusedVariables false
set_option linter.unusedSimpArgs false
def Mv (n : Nat) : Move → Prop
 | .goroutine m _ => n ≤ m.world.drawn
 | .machine s _ => S n s
theorem Mv.le {n m : Nat} {s : Move} (h : Mv m s) (hm : n ≤ m) : Mv n s := by
 cases s
 · exact Nat.le_trans hm h
 · exact S.le h hm
section
variable {p : Program} {m : Machine}
theorem askOn_dr : Mv m.world.drawn (askOn p m) := by
 have pick : ∀ (m2 : Machine) (rs : List Nat), Mv m2.world.drawn (match (choose (.sched rs.length)).run p m2.world with
      | .halt _ w => Move.machine (.ended (.stuck "sched" "") w)
      | .ok k world =>
        if rs.length ≤ 1 then .goroutine { m2 with world } (rs.getD k 0) else
        match (choose (.extern "sched.slice" 65536)).run p world with
        | .halt _ w => .machine (.ended (.stuck "sched.slice" "") w)
        | .ok n world => .goroutine { m2 with world, rest := { m2.rest with slice := if n = 0 then none else some (rs.getD k 0, n) } } (rs.getD k 0)) := by
  intro m2 rs
  split
  · exact trivial
  · rename_i e
    have h1 := ok_dr e
    split
    · exact h1
    · split
      · exact trivial
      · rename_i e2
        have h2 := ok_dr e2
        exact Nat.le_trans h1 h2
 unfold askOn
 dsimp only
 split
 · exact trivial
 · rename_i e
   have h1 := ok_dr e
   split
   · exact (serve_dr (m := { m with world := _ }) _).le h1
   · split
     · split
       · exact h1
       · split
         · exact h1
         · split <;> exact trivial
     · split
       · exact (pick { m with world := _ } _).le h1
       · split
         · exact trivial
         · rename_i e2
           have h2 := ok_dr e2
           exact (pick { m with world := _ } _).le (Nat.le_trans h1 h2)
         · rename_i e2
           have h2 := ok_dr e2
           exact Nat.le_trans h1 h2
         · rename_i e2
           have h2 := ok_dr e2
           exact (pick (Machine.advanceTo { m with world := _ } _) _).le (Nat.le_trans h1 h2)
theorem ask_dr2 : Mv m.world.drawn (ask p m) := by
 unfold ask
 split
 · split
   · exact trivial
   · rename_i e
     have h1 := ok_dr e
     have h2 := look_dr (p := p) (gs := m.gs) (rest := m.rest) (w := by assumption)
     split
     · rename_i e2
       rw [e2] at h2
       exact askOn_dr.le (Nat.le_trans h1 h2)
     · rename_i e2 _
       exact (h2.le h1)
   · rename_i e
     have h1 := ok_dr e
     exact (askOn_dr (m := { m with world := _ })).le h1
 · exact askOn_dr
theorem move_dr : Mv m.world.drawn (move p m) := by
 unfold move
 dsimp only
 split
 · split
   · exact Nat.le_refl _
   · exact trivial
 · split
   · split
     · exact Nat.le_refl _
     · exact ask_dr2 (m := { m with rest := _ })
   · exact ask_dr2
theorem step_dr : S m.world.drawn (step p m) := by
 have h := move_dr (p := p) (m := m)
 unfold step stepT
 split
 · rename_i e
   rw [e] at h
   exact runM_dr.le h
 · rename_i e
   rw [e] at h
   exact h
theorem runN_dr : ∀ (n : Nat) (m : Machine), S m.world.drawn (runN p n m)
 | 0, m => Nat.le_refl _
 | n + 1, m => by
  have h := step_dr (p := p) (m := m)
  unfold runN
  split
  · rename_i m1 e
    rw [e] at h
    exact (runN_dr n m1).le h
  · exact h
theorem steps_dr {m m' : Machine} (h : Steps p m m') : m.world.drawn ≤ m'.world.drawn := by
 obtain ⟨n, h⟩ := h
 have := runN_dr (p := p) n m
 rw [h] at this
 exact this
end
/-- What a call does: the draws grow. -/
theorem calls_dr {P : Program} {f : FuncId} {args : Array Value} {w : World} {Q : Ending → World → Prop} (h : Calls P f args w Q) (hQ : ∀ e w', Q e w' → ∃ v, e = .returned v) : Calls P f args w fun e w' => Q e w' ∧ w.drawn ≤ w'.drawn := by
 intro cs
 obtain ⟨e, w', fr, h1, h2, h3⟩ := h cs
 refine ⟨e, w', fr, ⟨h1, ?_⟩, h2, h3⟩
 obtain ⟨v, rfl⟩ := hQ e w' h1
 exact steps_dr (m := lone (Frame.enter P f args .normal) cs w) (m' := lone fr cs w') h2
end Go.Proofs.YthliihpeodohpaaGreatDoor.Dr
namespace Go.Proofs.YthliihpeodohpaaGreatDoor
open Go.RowKit
/-- How many operations are still to come. -/
def toCome (listed : Array Bool) : Nat := (listed.toList.filter (fun b => !b)).length
theorem toCome_set {listed : Array Bool} {i : Nat} (h : listed[i]? = some false) : toCome (listed.setIfInBounds i true) + 1 = toCome listed := by
 obtain ⟨l⟩ := listed
 simp only [List.getElem?_toArray] at h
 simp only [toCome, List.setIfInBounds_toArray]
 induction l generalizing i with
 | nil => simp at h
 | cons b r ih =>
  cases i with
  | zero =>
   simp at h
   subst h
   simp
  | succ i =>
   simp only [List.getElem?_cons_succ] at h
   have := ih h
   simp only [List.set_cons_succ, List.filter_cons]
   cases b <;> simp <;> omega
theorem ready_of {md : Region.Mode} {ops : Array Oper} {listed : Array Bool} {i : Nat} (h : i ∈ Region.ready md ops listed) :
  i < ops.size ∧ listed.getD i true = false ∧ ∀ o : Oper, ops[i]? = some o → ∀ e ∈ o.after, Region.binds md e = true → listed.getD e.on false = true := by
 unfold Region.ready at h
 simp only [List.mem_filter, List.mem_range, Bool.and_eq_true, Bool.not_eq_true'] at h
 refine ⟨h.1, h.2.1, fun o ho e he hb => ?_⟩
 have h3 := h.2.2
 rw [ho] at h3
 simp only [Option.map_some, Option.getD_some, Array.all_eq_true', Bool.or_eq_true, Bool.not_eq_true'] at h3
 rcases h3 e he with h4 | h4
 ·rw [h4] at hb; cases hb
 ·exact h4
theorem ready_nil {md : Region.Mode} {ops : Array Oper} {listed : Array Bool} (hs : listed.size = ops.size) (hback : ∀ (i : Nat) (o : Oper), ops[i]? = some o → ∀ e ∈ o.after, Region.binds md e = true → e.on < i) (h : Region.ready md ops listed = []) :
  ∀ i, i < ops.size → listed.getD i true = true := by
 intro i
 induction i using Nat.strongRecOn with
 | _ i ih =>
  intro hi
  cases hl : listed.getD i true with
  | true => rfl
  | false =>
   exfalso
   have hm : i ∈ Region.ready md ops listed := by
    unfold Region.ready
    simp only [List.mem_filter, List.mem_range, Bool.and_eq_true, Bool.not_eq_true']
    refine ⟨hi, hl, ?_⟩
    have ho : ops[i]? = some ops[i] := Array.getElem?_eq_getElem hi
    rw [ho]
    simp only [Option.map_some, Option.getD_some, Array.all_eq_true', Bool.or_eq_true, Bool.not_eq_true']
    intro e he
    cases hbd : Region.binds md e with
    | false => exact .inl rfl
    | true =>
    right
    have hlt := hback i _ ho e he hbd
    have := ih e.on hlt (by omega)
    rw [Array.getD_eq_getD_getElem?, Array.getElem?_eq_getElem (by omega)] at this ⊢
    simpa using this
   rw [h] at hm
   cases hm
theorem getD_ne {L : Array Bool} {i j : Nat} (h : i ≠ j) : (L.setIfInBounds i true).getD j false = L.getD j false := by
 rw [Array.getD_eq_getD_getElem?, Array.getD_eq_getD_getElem?, Array.getElem?_setIfInBounds, if_neg h]
theorem getD_eq {L : Array Bool} {i : Nat} (h : i < L.size) : (L.setIfInBounds i true).getD i false = true := by
 rw [Array.getD_eq_getD_getElem?, Array.getElem?_setIfInBounds, if_pos rfl, if_pos h]
 rfl
theorem getD_no {L : Array Bool} {i : Nat} (h : L.getD i true = false) : L.getD i false = false := by
 rw [Array.getD_eq_getD_getElem?] at h ⊢
 cases hl : L[i]? with
 | none => rfl
 | some b => rw [hl] at h; simpa using h
theorem getD_yes {L : Array Bool} {i : Nat} (hs : i < L.size) (h : L.getD i true = true) : L.getD i false = true := by
 rw [Array.getD_eq_getD_getElem?, Array.getElem?_eq_getElem hs] at h ⊢
 simpa using h
/-- Every edge goes back. -/
def backB (ops : Array Oper) : Bool := ops.toList.zipIdx.all fun x => x.1.after.all fun e => !Region.binds .any e || decide (e.on < x.2)
theorem back_of {ops : Array Oper} (h : backB ops = true) : ∀ (i : Nat) (o : Oper), ops[i]? = some o → ∀ e ∈ o.after, Region.binds .any e = true → e.on < i := by
 intro i o ho e he hbd
 unfold backB at h
 rw [List.all_eq_true] at h
 have h1 := h (o, i) (by rw [List.mem_zipIdx_iff_getElem?]; simpa using ho)
 rw [Array.all_eq_true'] at h1
 have h2 := h1 e he
 rw [hbd] at h2
 exact of_decide_eq_true (by simpa using h2)
end Go.Proofs.YthliihpeodohpaaGreatDoor
