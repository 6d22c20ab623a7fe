/-
 THE WALKS of package integer: unsigned, Of.
-/
import Derived.Test.YtfdfbenejkmnlaaGreatDoorDrA
import Derived.Sort.Grow
import Derived.Shelf.SlSortCmp.WholeK
import Derived.Test.YtfdfbenejkmnlaaGreatDoorFlow
import Derived.Test.YtfdfbenejkmnlaaGreatDoorRows
import Derived.WalkLawsBesides
import Derived.LoopTactic
import Derived.BigQuiet
import Derived.Deep.QuietTactic
namespace Go.Proofs.YtfdfbenejkmnlaaGreatDoor.Dr
open Go
set_option linter.unusedVariables false
set_option linter.unusedSimpArgs false
def G (n:Nat):GStep→Prop
 | .go _ w _=>n≤w.drawn
 | .comm _ _ _ _ w _=>n≤w.drawn
 | .spawn _ _ w _=>n≤w.drawn
 | .count _ w _=>n≤w.drawn
 | .timer _ _ w _=>n≤w.drawn
 | .alone _ _ w _=>n≤w.drawn
 | .newcoro _ _ _ w _=>n≤w.drawn
 | .coroswitch _ _ _ w _=>n≤w.drawn
 | .collect _ w _=>n≤w.drawn
 | .watch _ w _=>n≤w.drawn
 | .ended _ _ _=>True
theorem G.after {n:Nat} {s:GStep} {es:Array Event} (h:G n s):G n (s.after es):=by
 cases s<;>exact h
theorem G.le {n m:Nat} {s:GStep} (h:G m s) (hm:n≤m):G n s:=by
 cases s<;>first|exact Nat.le_trans hm h|exact trivial
section
variable {α:Type} {p:Program} {x:Sem α} {w w':World} {a:α} {h:Halt} {es es':Array Event}
theorem ok_dr (e:x.run p w= .ok a w'):w.drawn≤w'.drawn:=by
 have:=run_dr p x w
 rw[e]at this
 exact this
theorem halt_dr (e:x.run p w= .halt h w'):w.drawn≤w'.drawn:=by
 have:=run_dr p x w
 rw[e]at this
 exact this
theorem okT_dr (e:x.runT p w es=(.ok a w',es')):w.drawn≤w'.drawn:=by
 have:=runT_dr p x w es
 rw[e]at this
 exact this
theorem haltT_dr (e:x.runT p w es=(.halt h w',es')):w.drawn≤w'.drawn:=by
 have:=runT_dr p x w es
 rw[e]at this
 exact this
end
section
variable {p:Program} {fr:Frame} {callers:List Frame} {dying:Option Dying} {w:World} {b:Bool}
theorem endThrow_dr (m:String):G w.drawn (endThrow fr m w):=Nat.le_refl _
theorem endWith_dr (fd:Nat) (t:ByteArray) (o:Outcome):G w.drawn (endWith w fd t o):=by
 unfold endWith
 dsimp only
 repeat' split
 all_goals exact trivial
theorem endPrinting_dr (v:Value):G w.drawn (endPrinting p fr v w):=by
 unfold endPrinting
 dsimp only
 split
 · exact Nat.le_refl _
 · exact trivial
theorem endFatal_dr (m:String):G w.drawn (endFatal p fr callers dying m w):=by
 unfold endFatal
 dsimp only
 split
 · exact ok_dr (by assumption)
 · exact trivial
 · exact trivial
theorem writeOn_dr (d:Dying) (f:Fatal):G w.drawn (writeOn p fr d f w):=by
 unfold writeOn
 dsimp only
 split
 · exact trivial
 · split
   · exact okT_dr (by assumption)
   · exact haltT_dr (by assumption)
   · exact trivial
   · exact trivial
theorem die_dr (d:Dying):G w.drawn (die p fr d w):=by
 unfold die
 dsimp only
 split
 · exact writeOn_dr _ _
 · split
   · split
     · exact Nat.le_refl _
     · exact endWith_dr _ _ _
   · split
     · exact Nat.le_refl _
     · split
       · exact ok_dr (by assumption)
       · exact trivial
     · refine G.after ?_
       split
       · rename_i e
         exact okT_dr (Prod.ext e rfl)
       · rename_i e
         exact okT_dr (Prod.ext e rfl)
       · exact trivial
       · rename_i e
         exact(endPrinting_dr _).le (haltT_dr (Prod.ext e rfl))
       · exact trivial
     · exact trivial
theorem doReturn_dr (v:Value):G w.drawn (doReturn p b fr callers dying v w):=by
 unfold doReturn
 dsimp only
 split
 · split<;>exact Nat.le_refl _
 · split
   · exact Nat.le_refl _
   · exact trivial
   · split
     · exact Nat.le_refl _
     · split
       · exact Nat.le_refl _
       · exact trivial
theorem callDeferred_dr (d:Deferred):G w.drawn (callDeferred p fr callers dying d w):=by
 unfold callDeferred
 dsimp only
 have hr:=runT_dr p (invoke d.target d.args) w #[]
 revert hr
 generalize (invoke d.target d.args).runT p w #[]=q
 intro hr
 obtain⟨r,es⟩:=q
 dsimp only at hr⊢
 (repeat' first|refine G.after ?_|split)<;>first|exact hr|exact trivial|exact(endFatal_dr _).le hr|exact(endThrow_dr _).le hr
theorem unwind_dr:G w.drawn (unwind p b fr callers dying w):=by
 unfold unwind
 dsimp only
 split
 · refine G.after ?_
   split
   · rename_i e
     exact okT_dr (Prod.ext e rfl)
   · exact trivial
 · exact callDeferred_dr _
 · split
   · exact trivial
   · split
     · exact trivial
     · split
       · exact Nat.le_refl _
       · split
         · split
           · exact Nat.le_refl _
           · split
             · exact ok_dr (by assumption)
             · exact trivial
             · exact trivial
         · split
           · exact endPrinting_dr _
           · exact trivial
   · split
     · exact doReturn_dr _
     · refine G.after ?_
       split
       · rename_i e
         exact(doReturn_dr _).le (okT_dr (Prod.ext e rfl))
       · exact trivial
       · exact trivial
theorem early_dr (g:Nat):G w.drawn (early p fr callers dying g w):=by
 unfold early
 dsimp only
 (repeat' split)<;>first|exact trivial|exact Nat.le_refl w.drawn|exact ok_dr (by assumption)|(simp only[G];exact ok_dr (by assumption))
end
end Go.Proofs.YtfdfbenejkmnlaaGreatDoor.Dr
namespace Go.Proofs.YtfdfbenejkmnlaaGreatDoor.Dr
open Go
set_option linter.unusedVariables false
set_option linter.unusedSimpArgs false
section
variable {p:Program} {fr:Frame} {callers:List Frame} {dying:Option Dying} {w:World} {main listen:Bool}
theorem apply_dr (s:Sem Next):G w.drawn (stepG.apply p listen fr callers dying s w):=by
 unfold stepG.apply
 dsimp only
 have key:∀ (r:Result Next) (es:Array Event),R w.drawn r→(if listen=true then s.runT p w #[]else(s.run p w, #[]))=(r,es)→G w.drawn (stepG.apply p listen fr callers dying s w):=by
  intro r es hr e
  unfold stepG.apply
  dsimp only
  rw[e]
  dsimp only
  refine G.after ?_
  (repeat' split)<;>first|exact hr|exact trivial|exact(endFatal_dr _).le hr|exact(endThrow_dr _).le hr|exact(early_dr _).le hr
 have:=key _ _ ?_ (Prod.eta _).symm
 · unfold stepG.apply at this
   exact this
 · split
   · exact runT_dr p s w #[]
   · exact run_dr p s w
theorem elim_dr {α:Type} {n:Nat} {o:Option α} {s:GStep} {f:α→GStep} (h:G n s) (hf:∀ y,G n (f y)):G n (o.elim s f):=by
 cases o
 · exact h
 · exact hf _
theorem oper_dr:G w.drawn (stepG.oper p listen fr callers dying w):=by
 unfold stepG.oper
 split
 · exact trivial
 · split
   · exact apply_dr _
   · exact apply_dr _
theorem exec_dr:G w.drawn (stepG.exec p main listen fr callers dying w):=by
 unfold stepG.exec
 dsimp only
 (repeat' first|with_reducible refine G.after ?_|with_reducible refine elim_dr ?_ (fun y=> ?_)|split)<;>first|exact Nat.le_refl w.drawn|exact trivial|exact apply_dr _|exact oper_dr|exact ok_dr (by assumption)|exact(doReturn_dr _).le (okT_dr (by assumption))|exact(apply_dr _).le (okT_dr (by assumption))|exact okT_dr (by assumption)|exact haltT_dr (by assumption)|(rename_i e;exact(doReturn_dr _).le (okT_dr (Prod.ext e rfl)))|(rename_i e;exact(apply_dr _).le (okT_dr (Prod.ext e rfl)))|(rename_i e;exact okT_dr (Prod.ext e rfl))|(rename_i e;exact haltT_dr (Prod.ext e rfl))|skip
end
end Go.Proofs.YtfdfbenejkmnlaaGreatDoor.Dr
namespace Go.Proofs.YtfdfbenejkmnlaaGreatDoor.Dr
open Go
set_option linter.unusedVariables false
set_option linter.unusedSimpArgs false
def S (n:Nat):Stepped→Prop
 | .next m=>n≤m.world.drawn
 | .ended _ _=>True
theorem S.le {n m:Nat} {s:Stepped} (h:S m s) (hm:n≤m):S n s:=by
 cases s
 · exact Nat.le_trans hm h
 · exact trivial
section
variable {p:Program} {w:World} {main listen:Bool} {m:Machine} {rest:Rest} {gs:Array Goroutine} {i:Nat} {g:Goroutine}
theorem stepG_dr:G w.drawn (stepG p main g w listen):=by
 unfold stepG
 dsimp only
 split
 · exact die_dr _
 · exact exec_dr
 · exact unwind_dr
theorem waiting_dr {cases:Array CommCase} {w':World} (h:waitingAt rest cases w=some w'):w.drawn=w'.drawn:=by
 unfold waitingAt at h
 split at h
 · split at h
   · injection h with h
     subst h
     rfl
   · cases h
 · injection h with h
   subst h
   rfl
theorem communicate_dr (cases:Array CommCase) (blocking:Bool) (shape:CommShape):S w.drawn (communicate p rest gs i g cases blocking shape w).1:=by
 unfold communicate
 dsimp only
 split
 · exact trivial
 · split
   · split
     · split
       · rename_i e
         exact Nat.le_of_eq (waiting_dr e)
       · exact trivial
     · exact Nat.le_refl _
   · split
     · exact trivial
     · rename_i e
       have h1:=ok_dr e
       split
       · split
         · rename_i e2
           exact Nat.le_trans h1 (halt_dr e2)
         · exact trivial
       · exact h1
       · exact h1
       · split
         · exact h1
         · split
           · rename_i e2
             have h2:=ok_dr e2
             exact Nat.le_trans h1 h2
           · exact trivial
       · exact h1
       · exact h1
       · exact trivial
theorem look_dr:S w.drawn (look p gs rest w):=by
 unfold look
 dsimp only
 (repeat' split)<;>first|exact trivial|exact ok_dr (by assumption)|(simp only[S];exact ok_dr (by assumption))|exact Nat.le_refl w.drawn|skip
theorem serve_dr (k:Nat):S m.world.drawn (serve p m k):=by
 unfold serve
 dsimp only
 (repeat' split)<;>first|exact trivial|exact Nat.le_refl m.world.drawn|skip
theorem retime_dr {k when_ per:Nat} {t:Timer}:(retime m k t when_ per).2.world.drawn=m.world.drawn:=by
 unfold retime
 dsimp only
 split
 · unfold drain
   split<;>rfl
 · rfl
theorem opened_dr {var:Addr} {m':Machine} (h:timerOp.opened m var=some m'):m'.world.drawn=m.world.drawn:=by
 unfold timerOp.opened at h
 split at h
 · split at h
   · injection h with h
     subst h
     rfl
   · cases h
 · injection h with h
   subst h
   rfl
theorem named_dr {m0 m':Machine} {var:Addr} {f:Nat→Timer→Value×Machine} {v:Value} (hf:∀ k t,(f k t).2.world.drawn=m0.world.drawn) (h:timerOp.named m var f= .ok (v,m')):m'.world.drawn=m0.world.drawn:=by
 unfold timerOp.named at h
 split at h
 · rename_i k _
   injection h with h
   have:=hf k (m.rest.timers.getD k default)
   rw[h]at this
   exact this
 · cases h
theorem timerOp_dr {op:TimerOp} {v:Value} {m':Machine} (h:timerOp m op= .ok (v,m')):m.world.drawn=m'.world.drawn:=by
 unfold timerOp at h
 split at h
 · split at h
   · injection h with h
     injection h with h1 h2
     subst h2
     rfl
   · split at h
     · split at h
       · cases h
       · injection h with h
         injection h with h1 h2
         subst h2
         rfl
     · cases h
 · exact(named_dr (fun k t=>retime_dr) h).symm
 · split at h
   · rename_i e
     exact((named_dr (fun k t=>retime_dr) h).trans (opened_dr e)).symm
   · cases h
 · injection h with h
   injection h with h1 h2
   subst h2
   rfl
theorem runM_dr:S m.world.drawn (Go.runT p m i listen).1:=by
 have hs:=stepG_dr (p:=p) (main:=i==0) (listen:=listen) (g:=(m.gs.swapAt! i {(default:Goroutine)with status:= .finished}).1) (w:=m.world)
 unfold Go.runT
 dsimp only
 revert hs
 generalize stepG p (i==0) (m.gs.swapAt! i {(default:Goroutine)with status:= .finished}).1 m.world listen=s
 intro hs
 cases s with
 |ended o w es=>exact trivial
 |comm g cases blocking shape w es=>exact(communicate_dr cases blocking shape).le hs
 |go g w es=>exact hs
 |spawn g child w es=>exact hs
 |count g w es=>
  dsimp only
  split
  · exact trivial
  · exact hs
 |alone g on w es=>exact hs
 |collect g w es=>exact look_dr.le hs
 |watch g w es=>exact hs
 |newcoro g c d w es=>exact hs
 |coroswitch g c exit w es=>
  dsimp only
  split
  · exact hs
  · split
    · rename_i e
      have:=endThrow_dr (fr:=g.frame) (w:=w) "coroswitch on exited coro"
      rw[e]at this
      exact Nat.le_trans hs this
    · exact trivial
  · exact trivial
 |timer g op w es=>
  dsimp only
  split
  · rename_i e
    have:=timerOp_dr e
    exact Nat.le_trans hs (Nat.le_of_eq this)
  · split
    · rename_i e
      have:=fun msg=>endThrow_dr (fr:=g.frame) (w:=w) msg
      unfold endThrow dieOf at e
      injection e with e1 e2 e3
      subst e2
      exact hs
    · exact trivial
  · exact trivial
  · exact trivial
end
end Go.Proofs.YtfdfbenejkmnlaaGreatDoor.Dr
namespace Go.Proofs.YtfdfbenejkmnlaaGreatDoor.Dr
open Go
set_option linter.unusedVariables false
set_option linter.unusedSimpArgs false
def Mv (n:Nat):Move→Prop
 | .goroutine m _=>n≤m.world.drawn
 | .machine s _=>S n s
theorem Mv.le {n m:Nat} {s:Move} (h:Mv m s) (hm:n≤m):Mv n s:=by
 cases s
 · exact Nat.le_trans hm h
 · exact S.le h hm
section
variable {p:Program} {m:Machine}
theorem askOn_dr : Mv m.world.drawn (askOn p m) := by
 have pick : ∀ (m2 : Machine) (rs : List Nat), Mv m2.world.drawn (match (choose (.sched rs.length)).run p m2.world with
      | .halt _ w=>Move.machine (.ended (.stuck "sched" "") w)
      | .ok k world=>
        if rs.length≤1 then .goroutine {m2 with world} (rs.getD k 0)else
        match (choose (.extern "sched.slice" 65536)).run p world with
        | .halt _ w=> .machine (.ended (.stuck "sched.slice" "") w)
        | .ok n world=> .goroutine {m2 with world,rest:={m2.rest with slice:=if n=0 then none else some (rs.getD k 0,n)}} (rs.getD k 0)):=by
  intro m2 rs
  split
  · exact trivial
  · rename_i e
    have h1:=ok_dr e
    split
    · exact h1
    · split
      · exact trivial
      · rename_i e2
        have h2:=ok_dr e2
        exact Nat.le_trans h1 h2
 unfold askOn
 dsimp only
 split
 · exact trivial
 · rename_i e
   have h1:=ok_dr e
   split
   · exact(serve_dr (m:={m with world:=_}) _).le h1
   · split
     · split
       · exact h1
       · split
         · exact h1
         · split<;>exact trivial
     · split
       · exact(pick {m with world:=_} _).le h1
       · split
         · exact trivial
         · rename_i e2
           have h2:=ok_dr e2
           exact(pick {m with world:=_} _).le (Nat.le_trans h1 h2)
         · rename_i e2
           have h2:=ok_dr e2
           exact Nat.le_trans h1 h2
         · rename_i e2
           have h2:=ok_dr e2
           exact(pick (Machine.advanceTo {m with world:=_} _) _).le (Nat.le_trans h1 h2)
theorem ask_dr2:Mv m.world.drawn (ask p m):=by
 unfold ask
 split
 · split
   · exact trivial
   · rename_i e
     have h1:=ok_dr e
     have h2:=look_dr (p:=p) (gs:=m.gs) (rest:=m.rest) (w:=by assumption)
     split
     · rename_i e2
       rw[e2]at h2
       exact askOn_dr.le (Nat.le_trans h1 h2)
     · rename_i e2 _
       exact(h2.le h1)
   · rename_i e
     have h1:=ok_dr e
     exact(askOn_dr (m:={m with world:=_})).le h1
 · exact askOn_dr
theorem move_dr:Mv m.world.drawn (move p m):=by
 unfold move
 dsimp only
 split
 · split
   · exact Nat.le_refl _
   · exact trivial
 · split
   · split
     · exact Nat.le_refl _
     · exact ask_dr2 (m:={m with rest:=_})
   · exact ask_dr2
theorem step_dr:S m.world.drawn (step p m):=by
 have h:=move_dr (p:=p) (m:=m)
 unfold step stepT
 split
 · rename_i e
   rw[e]at h
   exact runM_dr.le h
 · rename_i e
   rw[e]at h
   exact h
theorem runN_dr:∀ (n:Nat) (m:Machine),S m.world.drawn (runN p n m)
 |0,m=>Nat.le_refl _
 |n+1,m=>by
  have h:=step_dr (p:=p) (m:=m)
  unfold runN
  split
  · rename_i m1 e
    rw[e]at h
    exact(runN_dr n m1).le h
  · exact h
theorem steps_dr {m m':Machine} (h:Steps p m m'):m.world.drawn≤m'.world.drawn:=by
 obtain⟨n,h⟩:=h
 have:=runN_dr (p:=p) n m
 rw[h]at this
 exact this
end
/-- What a call does: the draws grow. -/
theorem calls_dr {P:Program} {f:FuncId} {args:Array Value} {w:World} {Q:Ending→World→Prop} (h:Calls P f args w Q) (hQ:∀ e w',Q e w'→∃ v,e= .returned v):Calls P f args w fun e w'=>Q e w'∧w.drawn≤w'.drawn:=by
 intro cs
 obtain⟨e,w',fr,h1,h2,h3⟩:=h cs
 refine⟨e,w',fr,⟨h1, ?_⟩,h2,h3⟩
 obtain⟨v,rfl⟩:=hQ e w' h1
 exact steps_dr (m:=lone (Frame.enter P f args .normal) cs w) (m':=lone fr cs w') h2
end Go.Proofs.YtfdfbenejkmnlaaGreatDoor.Dr
namespace Go.Proofs.YtfdfbenejkmnlaaGreatDoor.E
open Go.RowKit Go.Sort
set_option linter.unusedVariables false
set_option linter.unusedSimpArgs false
section
variable {w w':World}
theorem grow_of (h:Go.RowKit.Below w.heap.size w w') (hd:w.drawn≤w'.drawn):∃ q os',w'=grow (w.drewN q) os':=by
 refine⟨w'.drawn - w.drawn,w'.heap.extract w.heap.size w'.heap.size, ?_⟩
 have hs:=h.size
 have e1 : w'.heap = w.heap ++ w'.heap.extract w.heap.size w'.heap.size := by
  apply Array.ext
  · simp;omega
  · intro i h1 h2
    rw[Array.getElem_append]
    split
    · rename_i hi
      have:=h.block i hi
      rw[Array.getElem?_eq_getElem h1,Array.getElem?_eq_getElem hi]at this
      exact Option.some.inj this
    · rename_i hi
      rw[Array.getElem_extract]
      congr 1
      omega
 have e2:w'.drawn=w.drawn+(w'.drawn - w.drawn):=by omega
 have h1:=h.os
 have h2:=h.tape
 have h3:=h.output
 generalize w'.heap.extract w.heap.size w'.heap.size=os' at e1
 generalize w'.drawn - w.drawn=q at e2
 obtain⟨hp,tp,dr,o,ot⟩:=w'
 simp only at e1 e2 h1 h2 h3
 subst e1;subst e2;subst h1;subst h2;subst h3
 rfl
end
end Go.Proofs.YtfdfbenejkmnlaaGreatDoor.E
namespace Go.Proofs.YtfdfbenejkmnlaaGreatDoor.E
open Go.RowKit Go.Shelf Go.Sort
set_option linter.unusedVariables false
set_option linter.unusedSimpArgs false
section
variable {β:Type} {T z:Nat} {db:β→List V} {okb:β→Prop} {cf:β→β→Int}
/-- An element: its cells, and what they stand for. -/
def El (w:World) (A:Nat→Prop) (db:β→List V) (z:Nat) (okb:β→Prop):Type:={x:List Value×β // x.1.length=z∧(∀ v∈x.1,v.oneCell'=true)∧okb x.2∧∀ j y,(db x.2)[j]? =some y→Rep w A no (x.1.getD j undef) y}
theorem flat_idx {zz:Nat} (h0:0<zz):∀ {ls:List (List V)},(∀ cs∈ls,cs.length=zz)→∀ {i j:Nat} {cs:List V} {y:V},ls[i]? =some cs→cs[j]? =some y→ls.flatten[i*zz+j]? =some y
 |[],_,i,j,cs,y,h1,_=>by simp at h1
 |x::ls,hz,0,j,cs,y,h1,h2=>by
  injection h1 with h1
  subst h1
  rw[List.flatten_cons,Nat.zero_mul,Nat.zero_add,List.getElem?_append_left (List.getElem?_eq_some_iff.1 h2).1]
  exact h2
 |x::ls,hz,i+1,j,cs,y,h1,h2=>by
  have hx:=hz x (List.mem_cons_self ..)
  have:=flat_idx h0 (fun c hc=>hz c (List.mem_cons_of_mem _ hc)) (i:=i) (j:=j) (ls:=ls) h1 h2
  rw[List.flatten_cons,List.getElem?_append_right (by rw[hx,Nat.add_mul];omega),hx,show(i+1)*zz+j - zz=i*zz+j by rw[Nat.add_mul];omega]
  exact this
theorem e_sortG {cmp:FuncId} {ρ:Ren} (LA:SlLaysF0.n6 PP ρ) (hok:okF PP (ρ.f 6)) (hT:ρ.t 24=T) (aE:∀ w,(isAgg T).run PP w= .ok true w) (zE:∀ w,(Go.sizeOf T).run PP w= .ok z w) (hz:∀ c,okb c→(db c).length=z) (h1:∀ c,okb c→(db c).all one=true) (z0:0<z)
  (hcmp:∀ c d,okb c→okb d→Pure PP cmp [.ag (db c),.ag (db d)] (ni (cf c d))) (hO1:∀ x,okb x→¬cf x x<0) (hO2:∀ x y u,okb x→okb y→okb u→cf x y<0→cf y u<0→cf x u<0) (hO3:∀ x y u,okb x→okb y→okb u→¬cf x y<0→¬cf y u<0→¬cf x u<0)
  (l l':List β) (hl:∀ c∈l,okb c) (h0:0<l.length) (hp:l'.Perm l) (hs:l'.Pairwise fun a b=>¬cf b a<0) (ht:∀ a∈l,∀ b∈l,¬cf b a<0→¬cf a b<0→a=b) (hn:l.length<1000000):
  PureT PP (ρ.f 6) [.rw T z (l.map db)] [.ow 0,.cl cmp []] (.io 1 [.rw T z (l'.map db)] (.tu [])):=by
 refine⟨hok,fun w B M m args K hm hnn hargs=> ?_⟩
 obtain⟨v,xs,q1,q2,q3,q4,q5⟩:=K.rw 0 T z (l.map db) rfl
 have hlm:(l.map db).length=l.length:=List.length_map ..
 obtain⟨hxs,q3⟩:=q3
 obtain⟨g,cap,cur,hv,hB,hh,hc1,hc2,hsz,htk⟩:=q3.resolve_left (fun e=>by omega)
 subst hv
 rw[hlm]at hxs htk hc1
 let A:Nat→Prop:=Av M (fun b=>([HO.rw T z (l.map db)]:List HO).getD b .dead) m
 have hgA:A g:= .inr ⟨0,_,rfl,q1,rfl⟩
 have hglt:g<w.heap.size:=(Array.getElem?_eq_some_iff.1 hh).1
 -- the elements
 have hzl:∀ cs∈l.map db,cs.length=z:=q2
 have cell:∀ i j,i<l.length→j<z→i*z+j<l.length*z:=fun i j hi hj=>by
  have:=Nat.mul_le_mul_right z (show i+1≤l.length from hi)
  rw[Nat.add_mul,Nat.one_mul]at this
  omega
 let mk:(i:Fin l.length)→El w A db z okb:=fun i=>⟨((xs.drop (i.val*z)).take z,l[i.val]'i.isLt),by
   rw[List.length_take,List.length_drop,hxs]
   have:=cell i.val (z - 1) i.isLt (by omega)
   omega,fun v hv=>q4 v (List.mem_of_mem_drop (List.mem_of_mem_take hv)),hl _ (List.getElem_mem _),fun j y hj=>by
   have hok:=hl _ (List.getElem_mem i.isLt)
   have hjz:j<z:=by rw[←hz _ hok];exact(List.getElem?_eq_some_iff.1 hj).1
   have hf:=flat_idx z0 hzl (i:=i.val) (j:=j) (cs:=db (l[i.val]'i.isLt)) (y:=y) (by rw[List.getElem?_map,List.getElem?_eq_getElem i.isLt];rfl) hj
   have:=q5 _ y hf
   have e:((xs.drop (i.val*z)).take z).getD j undef=xs.getD (i.val*z+j) undef:=by
    rw[List.getD_eq_getElem?_getD,List.getElem?_take,if_pos hjz,List.getElem?_drop,List.getD_eq_getElem?_getD]
   show Rep w A no (((xs.drop (i.val*z)).take z).getD j undef) y
   rw[e]
   exact this⟩
 haveI:Inhabited (El w A db z okb):=⟨mk ⟨0,h0⟩⟩
 let d:Array (El w A db z okb):=Array.ofFn mk
 have hds:d.size=l.length:=Array.size_ofFn
 let enc:El w A db z okb→List Value:=fun x=>x.val.1
 have hdget:∀ i (hi:i<l.length),d[i]! =mk ⟨i,hi⟩:=fun i hi=>by
  rw[getElem!_pos d i (by rw[hds];exact hi)]
  simp[d]
 have hH:HoldsK enc z w g 0 d:=fun t ht2=>by
  have ht2:t<l.length*z:=by simpa[hds]using ht2
  have htc:t<cur.size:=by
   rw[hsz]
   exact Nat.lt_of_lt_of_le ht2 (Nat.mul_le_mul_right _ hc1)
  have hq:t / z<l.length:=Nat.div_lt_of_lt_mul (by rw[Nat.mul_comm];exact ht2)
  have hr:t % z<z:=Nat.mod_lt _ z0
  refine⟨?_, ?_⟩
  · rw[Nat.zero_add,get_flatK _ _ _ _ (by rw[hds];exact ht2),hdget _ hq]
    have e:(enc (mk ⟨t / z,hq⟩))[t % z]! =xs.getD t undef:=by
     show((xs.drop (t / z*z)).take z)[t % z]! =_
     rw[getElem!_pos _ _ (by rw[List.length_take,List.length_drop,hxs];have:=cell (t / z) (z - 1) hq (by omega);omega),List.getElem_take,List.getElem_drop,List.getD_eq_getElem?_getD,List.getElem?_eq_getElem (by rw[hxs];exact ht2)]
     simp only[Option.getD_some]
     congr 1
     exact Nat.div_add_mod' t z
    show w.cell? _=some (id _)
    rw[show id ((enc (mk ⟨t / z,hq⟩))[t % z]!)=xs.getD t undef from e,←htk,List.getD_eq_getElem?_getD,List.getElem?_take,if_pos (by omega),Array.getElem?_toList,Array.getElem?_eq_getElem htc]
    simp[World.cell?,hh,htc]
  · rw[Nat.zero_add]
    simp[World.frozen?,hh]
 let cf':El w A db z okb→El w A db z okb→Int:=fun x y=>cf x.val.2 y.val.2
 have hO:SWO (ltOf cf'):=by
  refine⟨fun x=> ?_,fun x y u a b=> ?_,fun x y u a b=> ?_⟩
  · exact decide_eq_false (hO1 _ x.property.2.2.1)
  · exact decide_eq_true (hO2 _ _ _ x.property.2.2.1 y.property.2.2.1 u.property.2.2.1 (of_decide_eq_true a) (of_decide_eq_true b))
  · exact decide_eq_false (hO3 _ _ _ x.property.2.2.1 y.property.2.2.1 u.property.2.2.1 (of_decide_eq_false a) (of_decide_eq_false b))
 have hcmpL:CmpLays PP cmp #[] enc z cf' g 0 d.size w:=fun mm os dk hdk x y=>by
  have hc:=hcmp x.val.2 y.val.2 x.property.2.2.1 y.property.2.2.1
  obtain⟨W,hW⟩:∃ W,W=sortWorldK enc z w g 0 mm dk os:=⟨_,rfl⟩
  rw[←hW]
  have hsize:w.heap.size≤W.heap.size:=by rw[hW];exact size_sortWorldK_c enc z w g 0 mm dk os
  have hblk:∀ g',g'<w.heap.size→g'≠g→W.heap[g']? =w.heap[g']? :=fun g' h2 h3=>by
   rw[hW]
   simp only[sortWorldK,putRowK,putRow,mapBlock,grow,Sort.ahead]
   rw[Array.getElem?_append_left (by simpa using h2),Array.getElem?_modify,if_neg (fun e=>h3 e.symm)]
  have hmo:Mo w A no W A no:=⟨hsize,fun g' h2 h3=>hblk g' h2 (fun e=>h3 (by rw[e];exact hgA)),fun g' e=> .inl e,fun _ _ e=>e⟩
  have one_:∀ u:El w A db z okb,Rep W A no (.agg u.val.1.toArray) (.ag (db u.val.2)):=fun u=>by
   refine .ag _ _ _ (by rw[List.size_toArray,u.property.1,hz _ u.property.2.2.1]) fun j y hj=> ?_
   have:=u.property.2.2.2 j y hj
   rw[Array.getD_eq_getD_getElem?,List.getElem?_toArray,←List.getD_eq_getElem?_getD]
   exact this.mo hmo
  have hAlt:∀ g',A g'→g'<W.heap.size:=fun g' e=>Nat.lt_of_lt_of_le (K.av_lt e) hsize
  have hcall:=hc.2 W A #[.agg x.val.1.toArray,.agg y.val.1.toArray] hAlt ⟨rfl,fun j q hj=>by
   match j with
   |0=>injection hj with hj;subst hj;exact one_ x
   |1=>injection hj with hj;subst hj;exact one_ y
   |j+2=>simp at hj,K.gl.mo hmo⟩
  have hcall2:=Dr.calls_dr hcall (fun e w' ⟨v,he,_⟩=>⟨v,he⟩)
  refine hcall2.mono fun e w' ⟨⟨v,he,hd,hbel⟩,hdr⟩=> ?_
  have hv:=Rep.k_inv (show Rep w' A no v (ni (cf x.val.2 y.val.2))from hd)
  subst he
  rw[hv]
  exact⟨rfl,grow_of hbel hdr⟩
 have hds':=hds
 have eg:∀ args w,(callFunc cmp args).run PP w= .ok (.enter cmp args) w:=fun args w=>(hcmp _ _ (hl _ (List.getElem_mem h0)) (hl _ (List.getElem_mem h0))).1 args w
 have hcon:=AnyQ.slices_SortFunc LA z (hT▸aE) (hT▸zE) enc (fun x=>x.property.1) (fun x v hv=>x.property.2.1 v hv) cf' hO cmp #[] g 0 cap d w eg hcmpL hH hglt (by rw[hds];omega)
 have ha0:=hargs.el 0 _ rfl
 have ha1:=hargs.el 1 _ rfl
 have hs2:=hargs.sz
 have hargs':args= #[.slice (some ⟨g,0,none⟩) d.size cap,.func (.func cmp) #[] #[]]:=by
  rw[hds]
  have g0:args.getD 0 undef= .slice (some ⟨g,0,none⟩) l.length cap:=by
   generalize args.getD 0 undef=u at ha0
   cases ha0 with
   |ow _ _ ad n' c' hmm=>
    rw[q1]at hmm
    injection hmm with hmm
    rw[←hmm,hlm]
  have g1:args.getD 1 undef= .func (.func cmp) #[] #[]:=by
   generalize args.getD 1 undef=u at ha1
   cases ha1 with
   |cl _ _ cs _ h1 h2=>
    have:cs= #[]:=Array.eq_empty_of_size_eq_zero (by simpa using h1)
    rw[this]
  apply Array.ext
  · simpa using hs2
  · intro i hi hi'
    have hi3:i<2:=by simpa using hi'
    match i,hi3 with
    |0,_=>rw[Array.getD_eq_getD_getElem?,Array.getElem?_eq_getElem hi]at g0;exact g0
    |1,_=>rw[Array.getD_eq_getD_getElem?,Array.getElem?_eq_getElem hi]at g1;exact g1
 subst hargs'
 refine hcon.mono fun e w' ⟨he,d',n,os,hperm,hsort,hw⟩=> ?_
 subst he
 obtain⟨p1,_,p3⟩:=hperm
 have hds2:d'.size=l.length:=p1.trans hds
 have hp3:d'.toList.Perm d.toList:=by
  have e1:d'.extract 0 d.size=d':=by rw[←p1];exact Array.extract_size
  have e2:d.extract 0 d.size=d:=Array.extract_size
  rw[e1,e2]at p3
  exact p3
 have hdl:d.toList.map (fun x=>x.val.2)=l:=by
  apply List.ext_getElem
  · simp[hds]
  · intro i h2 h3
    rw[List.getElem_map,Array.getElem_toList]
    show((Array.ofFn mk)[i]'(by simpa[d]using h2)).val.2=_
    rw[Array.getElem_ofFn]
 have hpm:(d'.toList.map fun x=>x.val.2).Perm l:=by
  have:=hp3.map (fun x=>x.val.2)
  rwa [hdl]at this
 have hsm:(d'.toList.map fun x=>x.val.2).Pairwise fun a b=>¬cf b a<0:=by
  rw[List.pairwise_iff_getElem]
  intro i j h2 h3 h4
  have hj:j<d'.size:=by simpa using h3
  have:=hsort i j (Nat.zero_le _) h4 (by rw[hds,←hds2];exact hj)
  have:=of_decide_eq_false this
  rw[getElem!_pos d' j hj,getElem!_pos d' i (by omega)]at this
  simpa using this
 have hl':d'.toList.map (fun x=>x.val.2)=l':=List.Perm.eq_of_pairwise (le:=fun a b=>¬cf b a<0) (fun a b ha hb h2 h3=>ht a (hpm.mem_iff.1 ha) b (hp.mem_iff.1 hb) h2 h3) hsm hs (hpm.trans hp.symm)
 have hl'len:l'.length=l.length:=hp.length_eq
 have hl'at:∀ i (hi:i<l'.length),l'[i]'hi=(d'[i]'(by omega)).val.2:=fun i hi=>by
  have h5:(d'.toList.map fun x=>x.val.2)[i]? =some (d'[i]'(by omega)).val.2:=by
   rw[List.getElem?_map,Array.getElem?_toList,Array.getElem?_eq_getElem (by omega)]
   rfl
  have h6:l'[i]? =some (d'[i]'(by omega)).val.2:=(congrArg (fun r:List β=>r[i]?) hl').symm.trans h5
  rw[List.getElem?_eq_getElem hi]at h6
  exact Option.some.inj h6
 -- the new row
 obtain⟨w1,hw1⟩:∃ w1,w1=putRowK enc z (Sort.ahead w n) g 0 d':=⟨_,rfl⟩
 have hww:w'=grow w1 os:=by rw[hw1];exact hw
 have hoth:Oth g w w1:=by
  rw[hw1]
  refine⟨rfl,rfl,rfl,by simp[putRowK,putRow,mapBlock,Sort.ahead],fun k hk=> ?_⟩
  simp only[putRowK,putRow,mapBlock,Sort.ahead]
  rw[Array.getElem?_modify,if_neg (fun e=>hk e.symm)]
 have hheap:w1.heap[g]? =some (.cells (putCells id 0 (flatK enc z d') cur) T (0,0)):=by
  rw[hw1]
  simp only[putRowK,putRow,mapBlock,Sort.ahead]
  rw[Array.getElem?_modify,if_pos rfl,hh]
  rfl
 have hfs:(flatK enc z d').size=l.length*z:=by rw[size_flatK,hds2]
 have hcap:l.length*z≤cap*z:=Nat.mul_le_mul_right _ hc1
 have htake:(putCells id 0 (flatK enc z d') cur).toList.take (l.length*z)=(flatK enc z d').toList:=by
  apply List.ext_getElem?
  intro t
  rw[List.getElem?_take]
  by_cases h2:t<l.length*z
  · rw[if_pos h2,Array.getElem?_toList,Array.getElem?_toList]
    unfold putCells
    rw[Array.getElem?_mapIdx,Array.getElem?_eq_getElem (by omega:t<cur.size),Array.getElem?_eq_getElem (by omega:t<(flatK enc z d').size)]
    simp only[Option.map_some,Nat.zero_le,true_and,Nat.zero_add,Nat.sub_zero]
    rw[if_pos (by omega),getElem!_pos _ t (by omega)]
    rfl
  · rw[if_neg h2,List.getElem?_eq_none (by simp only[Array.length_toList];omega)]
 have hlm':(l'.map db).length=l.length:=by rw[List.length_map,hl'len]
 have hz':∀ cs∈l'.map db,cs.length=z:=fun cs hcs=>by
  obtain⟨c,hc,rfl⟩:=List.mem_map.1 hcs
  exact hz c (hl c (hp.mem_iff.1 hc))
 have hfg:∀ t,t<l.length*z→∃ (hq:t / z<d'.size),(flatK enc z d').toList.getD t undef=((d'[t / z]'hq).val.1).getD (t % z) undef:=fun t h2=>by
  have hq:t / z<d'.size:=by rw[hds2];exact Nat.div_lt_of_lt_mul (by rw[Nat.mul_comm];exact h2)
  refine⟨hq, ?_⟩
  rw[List.getD_eq_getElem?_getD,Array.getElem?_toList,Array.getElem?_eq_getElem (by omega),Option.getD_some,←getElem!_pos (flatK enc z d') t (by omega),get_flatK _ _ _ _ (by rw[hds2];exact h2),getElem!_pos d' _ hq]
  have hr:t % z<(d'[t / z]'hq).val.1.length:=by rw[(d'[t / z]'hq).property.1];exact Nat.mod_lt _ z0
  show((d'[t / z]'hq).val.1)[t % z]! =_
  rw[List.getD_eq_getElem?_getD,List.getElem?_eq_getElem hr]
  exact getElem!_pos (d'[t / z]'hq).val.1 (t % z) hr
 obtain⟨t1,t2⟩:=K.turn (w':=w1) (x:= .rw T z (l'.map db)) (g:=g) (b:=0) rfl q1 rfl hoth (fun _ _ e=>by cases e) (fun T' z' l2 e=>by
  injection e with e1 e2 e3
  subst e1;subst e2;subst e3
  refine⟨(flatK enc z d').toList,hz',⟨by rw[hlm'];simpa using hfs,.inr ⟨g,cap,_,by rw[hlm',hlm],hB,hheap,by omega,hc2,by rw[show(putCells id 0 (flatK enc z d') cur).size=cur.size from Array.size_mapIdx,hsz],by rw[hlm'];exact htake⟩⟩,fun u hu=> ?_,fun j x hx=> ?_⟩
  · obtain⟨t,ht3⟩:=List.getElem?_of_mem hu
    have htl:t<l.length*z:=by have:=(List.getElem?_eq_some_iff.1 ht3).1;simpa[hfs]using this
    obtain⟨hq,e⟩:=hfg t htl
    rw[List.getD_eq_getElem?_getD,ht3,Option.getD_some]at e
    have hr:t % z<(d'[t / z]'hq).val.1.length:=by rw[(d'[t / z]'hq).property.1];exact Nat.mod_lt _ z0
    rw[e,List.getD_eq_getElem?_getD,List.getElem?_eq_getElem hr]
    exact(d'[t / z]'hq).property.2.1 _ (List.getElem_mem hr)
  · have hj:=(List.getElem?_eq_some_iff.1 hx).1
    rw[flat_len hz',hlm']at hj
    obtain⟨cs,k1,k2⟩:=flat_inv z0 hz' hx
    obtain⟨hq,e⟩:=hfg j hj
    rw[e]
    have hi:j / z<l'.length:=by omega
    rw[List.getElem?_map,List.getElem?_eq_getElem hi]at k1
    injection k1 with k1
    subst k1
    rw[hl'at _ hi]at k2
    exact(d'[j / z]'hq).property.2.2.2 _ _ k2) rfl
 have hbel:Go.RowKit.Below w1.heap.size w1 w':=by
  rw[hww]
  refine⟨rfl,rfl,rfl,by simp[grow],fun k hk=> ?_⟩
  simp only[grow]
  rw[Array.getElem?_append_left hk]
 refine⟨_,rfl,⟨_,m,t1.call hbel,fun j hj=>rfl,fun j hj=> ?_,.tu _ #[] [] rfl fun j x hx=>by simp at hx⟩, ?_⟩
 · match j,hj with
   |0,_=>exact upd_eq
 · have b1:=hoth.below hB
   exact⟨hbel.os.trans b1.os,hbel.tape.trans b1.tape,hbel.output.trans b1.output,Nat.le_trans b1.size hbel.size,fun k hk=>(hbel.block k (Nat.lt_of_lt_of_le (K.bs k hk) b1.size)).trans (b1.block k hk)⟩
end
end Go.Proofs.YtfdfbenejkmnlaaGreatDoor.E
namespace Go.Proofs.YtfdfbenejkmnlaaGreatDoor.E
open Go.RowKit Go.Shelf
set_option linter.unusedVariables false
set_option linter.unusedSimpArgs false
noncomputable def renS:Ren:=⟨fun x=>match x with|6=> 36 |14=> 70 |15=> 71 |20=> 107 |21=> 108 |22=> 109 |23=> 110 |24=> 111 |25=> 112 |26=> 113 |27=> 114 |28=> 115 |29=> 116 |46=> 156 |47=> 157 |48=> 158 |49=> 159 |50=> 160 |57=> 183 |x=>x,fun x=>match x with|0=> 0 |3=> 3 |4=> 4 |5=> 5 |9=> 9 |22=> 23 |24=> 42 |25=> 91 |39=> 123 |45=> 153 |46=> 154 |50=> 158 |53=> 161 |55=> 163 |66=> 193 |70=> 197 |76=> 210 |77=> 211 |x=>x,fun x=>x⟩
theorem laS:SlLaysF0.n6 PP renS where
 mixed:=mo_
 f6:=⟨(fnOf PP (renS.f 6)).name,by kernel_rfl,by kernel_rfl⟩
 f14:=⟨(fnOf PP (renS.f 14)).name,by kernel_rfl,by kernel_rfl⟩
 f15:=by kernel_rfl
 f20:=⟨(fnOf PP (renS.f 20)).name,by kernel_rfl,by kernel_rfl⟩
 f21:=⟨(fnOf PP (renS.f 21)).name,by kernel_rfl,by kernel_rfl⟩
 f22:=⟨(fnOf PP (renS.f 22)).name,by kernel_rfl,by kernel_rfl⟩
 f23:=⟨(fnOf PP (renS.f 23)).name,by kernel_rfl,by kernel_rfl⟩
 f24:=⟨(fnOf PP (renS.f 24)).name,by kernel_rfl,by kernel_rfl⟩
 f25:=⟨(fnOf PP (renS.f 25)).name,by kernel_rfl,by kernel_rfl⟩
 f26:=⟨(fnOf PP (renS.f 26)).name,by kernel_rfl,by kernel_rfl⟩
 f27:=⟨(fnOf PP (renS.f 27)).name,by kernel_rfl,by kernel_rfl⟩
 f28:=by kernel_rfl
 f29:=by kernel_rfl
 f46:=⟨(fnOf PP (renS.f 46)).name,by kernel_rfl,by kernel_rfl⟩
 f47:=by kernel_rfl
 f48:=by kernel_rfl
 f49:=⟨(fnOf PP (renS.f 49)).name,by kernel_rfl,by kernel_rfl⟩
 f50:=⟨(fnOf PP (renS.f 50)).name,by kernel_rfl,by kernel_rfl⟩
 f57:=⟨(fnOf PP (renS.f 57)).name,by kernel_rfl,by kernel_rfl⟩
 t0:=by kernel_rfl
 a0:=fun _=>by kernel_rfl
 z0:=fun _=>by kernel_rfl
 v0:=fun _=>by kernel_rfl
 t3:=by kernel_rfl
 a3:=fun _=>by kernel_rfl
 z3:=fun _=>by kernel_rfl
 v3:=fun _=>by kernel_rfl
 t4:=by kernel_rfl
 a4:=fun _=>by kernel_rfl
 z4:=fun _=>by kernel_rfl
 v4:=fun _=>by kernel_rfl
 t5:=by kernel_rfl
 a5:=fun _=>by kernel_rfl
 z5:=fun _=>by kernel_rfl
 v5:=fun _=>by kernel_rfl
 t9:=by kernel_rfl
 a9:=fun _=>by kernel_rfl
 z9:=fun _=>by kernel_rfl
 v9:=fun _=>by kernel_rfl
 t22:=by kernel_rfl
 a22:=fun _=>by kernel_rfl
 z22:=fun _=>by kernel_rfl
 v22:=fun _=>by kernel_rfl
 t25:=by kernel_rfl
 a25:=fun _=>by kernel_rfl
 z25:=fun _=>by kernel_rfl
 v25:=fun _=>by kernel_rfl
 t39:=by kernel_rfl
 a39:=fun _=>by kernel_rfl
 z39:=fun _=>by kernel_rfl
 v39:=fun _=>by kernel_rfl
 t45:=by kernel_rfl
 a45:=fun _=>by kernel_rfl
 z45:=fun _=>by kernel_rfl
 v45:=fun _=>by kernel_rfl
 t46:=by kernel_rfl
 a46:=fun _=>by kernel_rfl
 z46:=fun _=>by kernel_rfl
 v46:=fun _=>by kernel_rfl
 t50:=by kernel_rfl
 a50:=fun _=>by kernel_rfl
 z50:=fun _=>by kernel_rfl
 v50:=fun _=>by kernel_rfl
 t53:=by kernel_rfl
 a53:=fun _=>by kernel_rfl
 z53:=fun _=>by kernel_rfl
 v53:=fun _=>by kernel_rfl
 t55:=by kernel_rfl
 a55:=fun _=>by kernel_rfl
 z55:=fun _=>by kernel_rfl
 v55:=fun _=>by kernel_rfl
 t66:=by kernel_rfl
 a66:=fun _=>by kernel_rfl
 z66:=fun _=>by kernel_rfl
 v66:=fun _=>by kernel_rfl
 t70:=by kernel_rfl
 a70:=fun _=>by kernel_rfl
 z70:=fun _=>by kernel_rfl
 v70:=fun _=>by kernel_rfl
 t76:=by kernel_rfl
 a76:=fun _=>by kernel_rfl
 z76:=fun _=>by kernel_rfl
 v76:=fun _=>by kernel_rfl
 t77:=by kernel_rfl
 a77:=fun _=>by kernel_rfl
 z77:=fun _=>by kernel_rfl
 v77:=fun _=>by kernel_rfl
end Go.Proofs.YtfdfbenejkmnlaaGreatDoor.E
namespace Go.Proofs.YtfdfbenejkmnlaaGreatDoor
set_option maxHeartbeats 1000000
open Go.RowKit
/-- How two numbers compare. -/
def cmpZ (x y:Int):Int:=if x<y then -1 else if y<x then 1 else 0
theorem cmpZ_lt {x y:Int} (h:x<y):cmpZ x y= -1:=by unfold cmpZ;rw[if_pos h]
theorem cmpZ_gt {x y:Int} (h:y<x):cmpZ x y=1:=by unfold cmpZ;rw[if_neg (by omega),if_pos h]
theorem cmpZ_eq {x y:Int} (h:x=y):cmpZ x y=0:=by unfold cmpZ;rw[if_neg (by omega),if_neg (by omega)]
theorem cmp_len {a b:List Int} (ha:I.Can a) (hb:I.Can b) (h:a.length≠b.length):cmpZ (a.length:Int) (b.length:Int)=cmpZ (I.val a) (I.val b):=by
 by_cases h1:a.length<b.length
 ·have h2:I.val a<I.val b:=by
   by_cases h3:I.val a<I.val b
   ·exact h3
   ·have:=I.Can.len hb ha.1 (by omega);omega
  rw[cmpZ_lt (by omega),cmpZ_lt h2]
 ·have h2:I.val b<I.val a:=by
   by_cases h3:I.val b<I.val a
   ·exact h3
   ·have:=I.Can.len ha hb.1 (by omega);omega
  rw[cmpZ_gt (by omega),cmpZ_gt h2]
theorem cmp_at {a b:List Int} (da:I.Dig a) (db:I.Dig b) {k:Nat} {x y:Int} (hx:a[k]? =some x) (hy:b[k]? =some y) (h:a.drop (k+1)=b.drop (k+1)) (hne:x≠y):cmpZ x y=cmpZ (I.val a) (I.val b):=by
 have ka:=(List.getElem?_eq_some_iff.1 hx).1
 have kb:=(List.getElem?_eq_some_iff.1 hy).1
 have e1:=I.val_split a (k:=k) (by omega)
 have e2:=I.val_split b (k:=k) (by omega)
 rw[I.val_drop_succ hx,h]at e1
 rw[I.val_drop_succ hy]at e2
 have b1:=I.val_lt (da.take k)
 have b2:=I.val_lt (db.take k)
 have c1:=I.val_nonneg (da.take k)
 have c2:=I.val_nonneg (db.take k)
 rw[List.length_take,Nat.min_eq_left (by omega)]at b1 b2
 have hp:=I.pw_pos k
 generalize I.pw k=p at*
 generalize I.val (b.drop (k+1))=t at*
 by_cases h1:x<y
 ·rw[cmpZ_lt h1,cmpZ_lt]
  have h2:p*(x+1)≤p*y:=Int.mul_le_mul_of_nonneg_left (by omega) (by omega)
  grind
 ·rw[cmpZ_gt (by omega),cmpZ_gt]
  have h2:p*(y+1)≤p*x:=Int.mul_le_mul_of_nonneg_left (by omega) (by omega)
  grind
end Go.Proofs.YtfdfbenejkmnlaaGreatDoor
namespace Go.Proofs.YtfdfbenejkmnlaaGreatDoor
set_option maxHeartbeats 1000000
open Go.RowKit
theorem sg_neg {ng:Bool} {v:Int} (hv:0<v):decide (sg ng v<0)=ng∧((sg ng v).natAbs:Int)=v:=by
 unfold sg
 cases ng<;>simp<;>omega
end Go.Proofs.YtfdfbenejkmnlaaGreatDoor
namespace Go.Proofs.YtfdfbenejkmnlaaGreatDoor
set_option maxHeartbeats 1000000
open Go.RowKit
attribute [local go_sem] run_store_one
set_option linter.unusedVariables false
/-- The sign of a number. -/
def sgnZ (x:Int):Int:=cmpZ x 0
end Go.Proofs.YtfdfbenejkmnlaaGreatDoor
namespace Go.Proofs.YtfdfbenejkmnlaaGreatDoor
set_option maxHeartbeats 1000000
open Go.RowKit
set_option linter.unusedVariables false
attribute [local go_sem] run_store_one
end Go.Proofs.YtfdfbenejkmnlaaGreatDoor
