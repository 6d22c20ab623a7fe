/-
 THE SECOND ENGINE, 10: regions, in the text's order and in any.
-/
import Derived.Test.YtfdfbenejkmnlaaGreatDoorEmF5
namespace Go.Proofs.YtfdfbenejkmnlaaGreatDoor.E
open Go.RowKit
set_option linter.unusedVariables false
set_option linter.unusedSimpArgs false
theorem setAt_get {h:List HO} {b:Nat} {x:HO} (c:Nat):(setAt h b x).getD c .dead=if c=b then x else h.getD c .dead:=by
 unfold setAt
 split
 · rename_i hb
   have hb:=Nat.le_of_ble_eq_true hb
   simp only[List.getD_eq_getElem?_getD]
   by_cases hc:c=b
   · subst hc
     rw[if_pos rfl,List.getElem?_append_right (by simp;omega)]
     simp
     rw[show c - (h.length+(c - h.length))=0 by omega]
     rfl
   · rw [if_neg hc]
     rcases Nat.lt_or_ge c h.length with h1|h1
     · rw[List.append_assoc,List.getElem?_append_left h1]
     · rw[List.getElem?_eq_none h1]
       rcases Nat.lt_or_ge c b with h2|h2
       · rw[List.getElem?_append_left (by simp;omega),List.getElem?_append_right h1,List.getElem?_replicate,if_pos (by omega)]
         rfl
       · rw[List.getElem?_eq_none (by simp;omega)]
 · rename_i hb
   have hb:b<h.length:=by
    rcases Nat.lt_or_ge b h.length with h1|h1
    · exact h1
    · rw[Nat.ble_eq_true_of_le h1]at hb;cases hb
   simp only[List.getD_eq_getElem?_getD]
   by_cases hc:c=b
   · subst hc;rw[if_pos rfl,List.getElem?_set_self hb];rfl
   · rw[if_neg hc,List.getElem?_set_ne (fun e=>hc e.symm)]
theorem setAt_len {h:List HO} {b:Nat} {x:HO}:h.length≤(setAt h b x).length∧b<(setAt h b x).length:=by
 unfold setAt
 split
 · rename_i hb
   have hb:=Nat.le_of_ble_eq_true hb
   simp
   omega
 · rename_i hb
   have hb:b<h.length:=by
    rcases Nat.lt_or_ge b h.length with h1|h1
    · exact h1
    · rw[Nat.ble_eq_true_of_le h1]at hb;cases hb
   simpa using hb
theorem apps_ho {h:List HO}:∀ (ws:List (Nat×HO)) (c:Nat),(apps h ws).getD c .dead=upds (fun b=>h.getD b .dead) ws c
 |[],_=>rfl
 |(b,x)::r,c=>by
  show(setAt (apps h r) b x).getD c .dead=upd _ b x c
  rw[setAt_get]
  by_cases hc:c=b
  · rw[if_pos hc];subst hc;exact upd_eq.symm
  · rw[if_neg hc,upd_ne hc,apps_ho r c]
theorem apps_len {h:List HO}:∀ (ws:List (Nat×HO)),h.length≤(apps h ws).length∧∀ b∈ws.map (·.1),b<(apps h ws).length
 |[]=>⟨Nat.le_refl _,fun _ h=>by cases h⟩
 |(b,x)::r=>by
  obtain⟨h1,h2⟩:=apps_len (h:=h) r
  have h3:=setAt_len (h:=apps h r) (b:=b) (x:=x)
  refine⟨Nat.le_trans h1 h3.1,fun c hc=> ?_⟩
  simp only[List.map_cons,List.mem_cons]at hc
  rcases hc with rfl|hc
  · exact h3.2
  · exact Nat.lt_of_lt_of_le (h2 c hc) h3.1
/-- What is written depends on the writes alone. -/
theorem upds_in {h h':Nat→HO}:∀ {ws:List (Nat×HO)} {b:Nat},b∈ws.map (·.1)→upds h ws b=upds h' ws b
 |[],_,e=>by cases e
 | (c, x) :: r, b, e => by
  by_cases hb:b=c
  · subst hb;exact upd_eq.trans upd_eq.symm
  · simp only[List.map_cons,List.mem_cons]at e
    exact((upd_ne hb).trans (upds_in (e.resolve_left hb))).trans (upd_ne hb).symm
theorem upds_out {h:Nat→HO}:∀ {ws:List (Nat×HO)} {b:Nat},b∉ws.map (·.1)→upds h ws b=h b
 |[],_,_=>rfl
 |(c,x)::r,b,e=>by
  simp only[List.map_cons,List.mem_cons,not_or]at e
  exact(upd_ne e.1).trans (upds_out e.2)
section
variable {B:Nat→Prop} {M:Nat→Prop} {P:Program} {ops:Array Oper}
/-- What is asked ahead of an operation, and what it does. -/
def StepOk (B:Nat→Prop) (M:Nat→Prop) (P:Program) (ops:Array Oper) (o:Oper) (σ:St) (v:V) (ws:List (Nat×HO)) (rd:List Nat):Prop:=
 ∀ (a:Act) (w:World) (h:Nat→HO) (m:Nat→Option Value),Ok B M h m w→Opd w (Av M h m) m o a σ→
  (∀ j c d,o.guard=some (j,c)→(ops[j]?).bind (·.dst)=some d→Rep w (Av M h m) m (a.eval (.tmp d)) (σ.t.getD d .un))→
  (∀ b∈rd,h b=σ.ho b)→(∀ b∈ws.map (·.1),b<σ.h.length→h b=σ.ho b)→(∀ b∈ws.map (·.1),σ.h.length≤b→h b= .dead∧m b=none)→
  (Region.wanted o (yielded ops a.tmps)=true∧Exec P o a w (Post B M h m w ws v))∨(Region.wanted o (yielded ops a.tmps)=false∧Post B M h m w ws v undef w)
theorem set_same {l:List V} {d:Nat} {x:V} (h:l.getD d .un=x) (hx:x≠ .un):l.set d x=l:=by
 apply List.ext_getElem?
 intro i
 rw[List.getD_eq_getElem?_getD]at h
 by_cases hi:d=i
 · subst hi
   cases h1:l[d]? with
   |none=>rw[h1]at h;exact absurd h.symm hx
   |some y=>
     rw[h1]at h
     rw[List.getElem?_set_self (List.getElem?_eq_some_iff.1 h1).1]
     exact congrArg some h.symm
 · rw[List.getElem?_set_ne hi]
theorem want_ok {o : Oper} {σ σ' : St} {g g' : List (Nat × Bool)} {sc sc' : List (Fa P)} {b : Bool} {k : Ks} (e : wantV ops o g σ sc = some (b, g', σ', sc', k)) (hk : ∀ p ∈ k, p.1 = p.2) : σ' = σ ∧ ∀ {a : Act} {w : World} {A : Nat → Prop} {m : Nat → Option Value},
  (∀ j c d,o.guard=some (j,c)→(ops[j]?).bind (·.dst)=some d→Rep w A m (a.eval (.tmp d)) (σ.t.getD d .un))→Region.wanted o (yielded ops a.tmps)=b:=by
 unfold wantV at e
 split at e
 · rename_i hg
   simp only[Option.some.injEq,Prod.mk.injEq]at e
   obtain⟨rfl,rfl,rfl,rfl,rfl⟩:=e
   exact⟨rfl,fun H=>wanted_none hg⟩
 · rename_i j want hg
   split at e
   · rename_i d hd
     split at e
     · rename_i t ht
       split at e
       · rename_i b0 hb
         simp only[Option.some.injEq,Prod.mk.injEq]at e
         obtain⟨rfl,rfl,rfl,rfl,rfl⟩:=e
         have hkey:=hk _ (List.mem_singleton.2 rfl)
         simp only[List.cons.injEq,V.k.injEq,Value.bool.injEq,and_true]at hkey
         refine⟨rfl,fun H=> ?_⟩
         have hr:=H j want d hg hd
         rw[ht]at hr
         rw[wanted_of hg hd (Rep.k_inv hr),hkey]
       · split at e
         · rename_i t0 b0 hb sc''
           simp only[Option.some.injEq,Prod.mk.injEq]at e
           obtain⟨rfl,rfl,rfl,rfl,rfl⟩:=e
           have hkey:=hk _ (List.mem_singleton.2 rfl)
           simp only[List.cons.injEq,V.k.injEq,Value.bool.injEq,and_true]at hkey
           subst hkey
           subst hb
           refine⟨by rw[set_same ht (by simp)],fun H=> ?_⟩
           have hr:=H j want d hg hd
           rw[ht]at hr
           rw[wanted_of hg hd (Rep.k_inv hr)]
         · cases e
     · rename_i vs ht
       simp only[Option.some.injEq,Prod.mk.injEq]at e
       obtain⟨rfl,rfl,rfl,rfl,rfl⟩:=e
       refine⟨rfl,fun{a} _ _ _ H=> ?_⟩
       have hr:=H j want d hg hd
       rw[ht]at hr
       have he:=Rep.k_inv hr
       have hy:yielded ops a.tmps j=none:=by
        simp only[yielded,hd,Option.bind_some]
        simp only[Act.eval,Array.getD_eq_getD_getElem?]at he
        cases h1:a.tmps[d]? with
        |none=>rfl
        |some x=>rw[h1]at he;simp at he;rw[he]
       unfold Region.wanted
       rw[hg]
       simp only[hy]
       rfl
     · cases e
   · cases e
theorem chg_ok {d:Option Nat} {v v':V} {sc sc':List (Fa P)} {k:Ks} (e:chg d v sc=(v',sc',k)) (hk:∀ p∈k,p.1=p.2):v=v':=by
 unfold chg at e
 split at e
 · rename_i d' t v0 v1 hv sc0
   split at e
   · simp only[Prod.mk.injEq]at e
     obtain⟨rfl,rfl,rfl⟩:=e
     have hkey:=hk _ (List.mem_singleton.2 rfl)
     simp only[List.cons.injEq,and_true]at hkey
     rw[hkey,hv]
   · simp only[Prod.mk.injEq]at e
     exact e.1
 · simp only[Prod.mk.injEq]at e
   exact e.1
/-- What is frozen is read as what it is. -/
theorem ths_ok {w:World} {A:Nat→Prop} {m:Nat→Option Value} {g:V→V×List Nat} {C:Nat→Prop} (hg:∀ x u,(∀ b∈(g x).2,C b)→Rep w A m u x→Rep w A m u (g x).1):
  ∀ (l:List V),(∀ b∈(ths g l).2,C b)→(ths g l).1.length=l.length∧∀ (j:Nat) (y:V),(ths g l).1[j]? =some y→∀ u,(∀ x,l[j]? =some x→Rep w A m u x)→Rep w A m u y
 |[],_=>⟨rfl,fun j y hy=>by simp[ths]at hy⟩
 |x::r,hc=>by
  have hc':∀ b∈(g x).2++(ths g r).2,C b:=hc
  obtain⟨h1,h2⟩:=ths_ok hg r fun b hb=>hc' b (List.mem_append.2 (.inr hb))
  have he:(ths g (x::r)).1=(g x).1::(ths g r).1:=rfl
  rw[he]
  refine⟨by simp[h1],fun j y hy u hu=> ?_⟩
  cases j with
  |zero=>
    simp only[List.getElem?_cons_zero,Option.some.injEq]at hy
    subst hy
    exact hg x u (fun b hb=>hc' b (List.mem_append.2 (.inl hb))) (hu x rfl)
  |succ j=>
    simp only[List.getElem?_cons_succ]at hy
    exact h2 j y hy u fun z hz=>hu z (by simpa using hz)
theorem thV_ok {h h0 : Nat → HO} {w : World} {m : Nat → Option Value} (K : Ok B M h m w) : ∀ (n : Nat) (x : V) (u : Value), (∀ b ∈ (thV h0 n x).2, h b = h0 b) → Rep w (Av M h m) m u x → Rep w (Av M h m) m u (thV h0 n x).1
 |0,x,u,_,hr=>hr
 | n + 1, x, u, hc, hr => by
  have ih:=ths_ok (C:=fun b=>h b=h0 b) (fun x u hc hr=>thV_ok (h0:=h0) K n x u hc hr)
  cases x with
  |ow b=>
    simp only[thV]at hc⊢
    split
    · rename_i l hb
      simp only[hb]at hc
      obtain⟨v,h1,h2⟩:=K.fz b _ ((hc b (List.mem_singleton.2 rfl)).trans hb)
      cases hr with
      |ow _ _ a n c hm=>
        rw[h1]at hm
        injection hm with hm
        subst hm
        exact h2.mo Mo.up
    · exact hr
  | lp b o =>
    simp only[thV]at hc⊢
    split
    · rename_i l hb
      simp only[hb]at hc
      obtain⟨v,h1,h2⟩:=K.fz b _ ((hc b (List.mem_singleton.2 rfl)).trans hb)
      cases hr with
      |lp _ _ _ g hm=>
        rw[h1]at hm
        injection hm with hm
        subst hm
        generalize hp:Value.pointer (some ⟨g,0,none⟩)=v at h2
        cases h2 with
        |ip _ _ _ _ us h3 h4 h5 h6=>
          injection hp with hp
          injection hp with hp
          injection hp with hp1 hp2
          subst hp1;subst hp2
          refine .ip _ g o _ (fun j=>us (o+j)) h3 h4 (fun j y hy=> ?_) fun j y hy=> ?_
          · rw[List.getElem?_drop]at hy
            have:=h5 (o+j) y hy
            rwa [Nat.zero_add]at this
          · rw[List.getElem?_drop]at hy
            exact h6 (o+j) y hy
    · exact hr
  |nm b=>
    simp only[thV]at hc⊢
    split
    · rename_i x hb
      simp only[hb]at hc
      obtain⟨v,h1,h2⟩:=K.fz b _ ((hc b (List.mem_singleton.2 rfl)).trans hb)
      cases hr with
      |nm _ _ _ hm=>
        rw[h1]at hm
        injection hm with hm
        subst hm
        exact h2.mo Mo.up
    · exact hr
  |ag l=>
    simp only[thV]at hc⊢
    obtain⟨k1,k2⟩:=ih l hc
    cases hr with
    |ag _ cs _ h1 h2=>exact .ag _ cs _ (by omega) fun j y hy=>k2 j y hy _ fun z hz=>h2 j z hz
  |tu l=>
    simp only[thV]at hc⊢
    obtain⟨k1,k2⟩:=ih l hc
    cases hr with
    |tu _ cs _ h1 h2=>exact .tu _ cs _ (by omega) fun j y hy=>k2 j y hy _ fun z hz=>h2 j z hz
  |cl f l=>
    simp only[thV]at hc⊢
    obtain⟨k1,k2⟩:=ih l hc
    cases hr with
    |cl _ _ cs _ h1 h2=>exact .cl _ f cs _ (by omega) fun j y hy=>k2 j y hy _ fun z hz=>h2 j z hz
  |_=>exact hr
theorem thS_ok {h:Nat→HO} {w:World} {m:Nat→Option Value} {a:Act} (K:Ok B M h m w):∀ (ts:List Nat) (σ:St),(thS ts σ).1.h=σ.h∧∀ t,(∀ b∈(thS ts σ).2,h b=σ.ho b)→Rep w (Av M h m) m (a.eval (.tmp t)) (σ.t.getD t .un)→Rep w (Av M h m) m (a.eval (.tmp t)) ((thS ts σ).1.t.getD t .un)
 |[],σ=>⟨rfl,fun _ _ h=>h⟩
 | t :: r, σ => by
  obtain⟨h1,h2⟩:=thS_ok (a:=a) K r ⟨σ.t.set t (thV σ.ho 5 (σ.t.getD t .un)).1,σ.h⟩
  refine⟨h1,fun q hc hr=> ?_⟩
  have hc':∀ b∈(thV σ.ho 5 (σ.t.getD t .un)).2++(thS r ⟨σ.t.set t (thV σ.ho 5 (σ.t.getD t .un)).1,σ.h⟩).2,h b=σ.ho b:=hc
  refine h2 q (fun b hb=>hc' b (List.mem_append.2 (.inr hb))) ?_
  show Rep w _ m _ ((σ.t.set t (thV σ.ho 5 (σ.t.getD t .un)).1).getD q .un)
  by_cases e:t=q
  · subst e
    by_cases hl:t<σ.t.length
    · rw[List.getD_eq_getElem?_getD (l:=σ.t.set _ _),List.getElem?_set_self hl]
      exact thV_ok K 5 _ _ (fun b hb=>hc' b (List.mem_append.2 (.inl hb))) hr
    · rw[List.getD_eq_getElem?_getD (l:=σ.t.set _ _),List.getElem?_eq_none (by rw[List.length_set];omega)]
      exact .un _ _
  · rw[List.getD_eq_getElem?_getD (l:=σ.t.set _ _),List.getElem?_set_ne e,←List.getD_eq_getElem?_getD]
    exact hr
theorem thaw_ok {h:Nat→HO} {w:World} {m:Nat→Option Value} {a:Act} {o:Oper} {σ σ2:St} {fr:List Nat} (K:Ok B M h m w) (e:thaw o σ=(σ2,fr)) (hc:∀ b∈fr,h b=σ.ho b) (H:Opd w (Av M h m) m o a σ):σ2.h=σ.h∧Opd w (Av M h m) m o a σ2:=by
 unfold thaw at e
 split at e
 · have e1:σ2=(thS (looks o) σ).1:=by rw[e]
   have e2:fr=(thS (looks o) σ).2:=by rw[e]
   subst e1;subst e2
   obtain⟨h1,h2⟩:=thS_ok (a:=a) K (looks o) σ
   exact⟨h1,fun t ht=>h2 t hc (H.1 t ht),H.2⟩
 · simp only[Prod.mk.injEq]at e
   obtain⟨rfl,rfl⟩:=e
   exact⟨rfl,H⟩
theorem stepR_ok {o:Oper} {σ σ':St} {g g':List (Nat×Bool)} {fp:Fp} {sc sc':List (Fa P)} {k:Ks} (e:stepR P ops o g σ sc=some (g',σ',fp,sc',k)) (hk:∀ p∈k,p.1=p.2):
  ∃ v ws,σ'=⟨σ.put o.dst v,apps σ.h ws⟩∧fp.ws=ws.map (·.1)∧StepOk B M P ops o σ v ws fp.rd:=by
 unfold stepR at e
 split at e
 · rename_i g1 σ1 sc1 k1 hw
   split at e
   rename_i σ2 fr hth
   split at e
   · rename_i r hr
     split at e
     rename_i v sc2 k2 hc
     simp only[Option.some.injEq,Prod.mk.injEq]at e
     obtain⟨rfl,rfl,rfl,rfl,rfl⟩:=e
     obtain⟨rfl,hw2⟩:=want_ok hw (fun p hp=>hk p (by simp[hp]))
     refine⟨v,r.ws,rfl,rfl,fun a w h m K H Hg h1 h2 h3=> .inl ⟨hw2 Hg, ?_⟩⟩
     have:=chg_ok hc (fun p hp=>hk p (by simp[hp]))
     rw[←this]
     obtain⟨q1,q2⟩:=thaw_ok K hth (fun b hb=>h1 b (List.mem_append.2 (.inl hb))) H
     have q3:σ2.ho=σ1.ho:=by unfold St.ho;rw[q1]
     exact aopX_ok K hr (fun p hp=>hk p (by simp[hp])) q2 (fun b hb=>by rw[q3];exact h1 b (List.mem_append.2 (.inr hb))) (fun b hb hl=>by rw[q3];exact h2 b hb (by rwa [q1]at hl)) (fun b hb hl=>h3 b hb (by rwa [q1]at hl))
   · cases e
 · rename_i g1 σ1 sc1 k1 hw
   simp only[Option.some.injEq,Prod.mk.injEq]at e
   obtain⟨rfl,rfl,rfl,rfl,rfl⟩:=e
   obtain⟨rfl,hw2⟩:=want_ok hw hk
   exact⟨.k undef,[],rfl,rfl,fun a w h m K H Hg h1 h2 h3=> .inr ⟨hw2 Hg,.same K (.k _ _)⟩⟩
 · cases e
theorem wpOp_of {Fx:Fence} {nf:Nat} {Q:Exit→Act→World→Prop} {Q':Value→World→Prop} {i:Nat} {o:Oper} {K:Act→World→Prop} {a:Act} {w:World} (hFx:WideF Fx) (hnd:nodef ops=true) (ho:ops[i]? =some o)
  (h:(Region.wanted o (yielded ops a.tmps)=true∧Exec P o a w Q')∨(Region.wanted o (yielded ops a.tmps)=false∧Q' undef w)) (hK:∀ u w',Q' u w'→K (a.put o.dst u) w'):wpOpIn Fx nf P ops Q i K a w:=by
 rcases h with⟨hg,h⟩|⟨hg,h⟩
 · rcases h with⟨u,w',h1,h2⟩|⟨w',h1,h2⟩|⟨f,args,h1,h2⟩
   · exact wpOpI_valG hFx hnd ho hg h1 (hK u w' h2)
   · unfold wpOpIn
     rw[ho]
     simp only[hg,if_true]
     unfold Oper.wpIn
     refine⟨fun f _=>hFx.fn f, ?_⟩
     rw[Oper.semAt_plain _ _ _ (nodef_at hnd ho),h1]
     exact hK undef w' h2
   · refine wpOpI_callG hFx hnd ho hg h1 (h2.mono fun e w' h=> ?_)
     obtain⟨u,rfl,hq⟩:=h
     exact⟨u,rfl,hK u w' hq⟩
 · exact wpOpI_skipG hFx ho hg (hK undef w h)
/-- What is put off is nothing. -/
def mark (D:Nat):Deferred:={target:= .collected D,args:= #[]}
def isMark (d:Deferred):Bool:=match d.target with
 | .collected _=>d.args.isEmpty
 |_=>false
/-- What is put off, and is no mark. -/
def unmk (ds:List Deferred):List Deferred:=ds.filter fun d=> !isMark d
theorem marks_all {ds:List Deferred} (h:unmk ds=[]):ds.filter isMark=ds:=by
 refine List.filter_eq_self.2 fun d hd=> ?_
 have:=List.filter_eq_nil_iff.1 h d hd
 simpa using this
theorem rest_tl {d:Deferred} {ds:List Deferred} (h:unmk (d::ds)=[]):unmk ds=[]:=by
 refine List.filter_eq_nil_iff.2 fun x hx=>List.filter_eq_nil_iff.1 h x (List.mem_cons_of_mem _ hx)
def DfOk (B:Nat→Prop) (ds:List Deferred) (w:World) (A:Nat→Prop):Prop:=∃ Ds:List Nat,ds.filter isMark=Ds.map mark∧Ds.Nodup∧∀ D∈Ds,¬B D∧w.heap[D]? =some (.deferred (some []))∧¬A D
theorem DfOk.mo {B:Nat→Prop} {ds:List Deferred} {w w':World} {A A':Nat→Prop} {m m':Nat→Option Value} (h:DfOk B ds w A) (g:Mo w A m w' A' m'):DfOk B ds w' A':=by
 obtain⟨Ds,h0,hn,h⟩:=h
 refine⟨Ds,h0,hn,fun D hd=> ?_⟩
 obtain⟨h1,h2,h3⟩:=h D hd
 have hlt:=(Array.getElem?_eq_some_iff.1 h2).1
 exact⟨h1,(g.blk D hlt h3).trans h2,g.av' hlt h3⟩
theorem DfOk.nil {B:Nat→Prop} {w:World} {A:Nat→Prop}:DfOk B [] w A:=⟨[],rfl,List.nodup_nil,fun D h=>by cases h⟩
/-- A frame and a world are as a state says. -/
structure SOk (B:Nat→Prop) (M:Nat→Prop) (w0:World) (σ:St) (a:Act) (m:Nat→Option Value) (w:World):Prop where
 K:Ok B M σ.ho m w
 sz:a.tmps.size=σ.t.length
 df:DfOk B a.defers w (Av M σ.ho m)
 tm:∀ i x,σ.t[i]? =some x→Rep w (Av M σ.ho m) m (a.tmps.getD i undef) x
 nm:∀ b,m b≠none→b<σ.h.length
 bl:Bl B w0 w
variable {w0:World} {σ σ':St} {a:Act} {m:Nat→Option Value} {w:World}
theorem SOk.slot (H:SOk B M w0 σ a m w) (t:Nat):Rep w (Av M σ.ho m) m (a.eval (.tmp t)) (σ.t.getD t .un):=by
 rw[List.getD_eq_getElem?_getD]
 cases h:σ.t[t]? with
 |none=>exact .un _ _
 |some x=>exact H.tm t x h
theorem put_size {a:Act} {d:Option Nat} {u:Value}:(a.put d u).tmps.size=a.tmps.size∧(a.put d u).defers=a.defers:=by
 cases d<;>simp[Act.put]
theorem put_get {a:Act} {d:Option Nat} {u:Value} {i:Nat} (hi:i<a.tmps.size):(a.put d u).tmps.getD i undef=if d=some i then u else a.tmps.getD i undef:=by
 cases d with
 |none=>simp[Act.put]
 |some d=>
   simp only[Act.put,Array.getD_eq_getD_getElem?,Option.some.injEq]
   by_cases h:d=i
   · subst h;rw[if_pos rfl,Array.getElem?_setIfInBounds_self_of_lt hi];rfl
   · rw[if_neg h,Array.getElem?_setIfInBounds_ne h]
theorem stput_len {d:Option Nat} {v:V}:(σ.put d v).length=σ.t.length:=by cases d<;>simp[St.put]
theorem stput_get {d:Option Nat} {v:V} {i:Nat}:(σ.put d v).getD i .un=if d=some i∧i<σ.t.length then v else σ.t.getD i .un:=by
 cases d with
 |none=>simp[St.put]
 |some d=>
   simp only[St.put,List.getD_eq_getElem?_getD,Option.some.injEq]
   by_cases h:d=i
   · subst h
     rcases Nat.lt_or_ge d σ.t.length with h1|h1
     · rw[if_pos ⟨rfl,h1⟩,List.getElem?_set_self h1];rfl
     · rw[if_neg (by omega),List.getElem?_eq_none (by simpa using h1),List.getElem?_eq_none h1]
   · rw[if_neg (fun e=>h e.1),List.getElem?_set_ne h]
/-- One step, in the text's order. -/
theorem SOk.step {o:Oper} {v:V} {ws:List (Nat×HO)} {u:Value} {w':World} (H:SOk B M w0 σ a m w) (h:Post B M σ.ho m w ws v u w'):∃ m',SOk B M w0 ⟨σ.put o.dst v,apps σ.h ws⟩ (a.put o.dst u) m' w'∧Mo w (Av M σ.ho m) m w' (Av M (⟨σ.put o.dst v,apps σ.h ws⟩:St).ho m') m':=by
 obtain⟨m',h1,h2,h3,h4,h5⟩:=h
 have hho:(⟨σ.put o.dst v,apps σ.h ws⟩:St).ho=upds σ.ho ws:=funext fun c=>apps_ho ws c
 refine⟨m',⟨by rw[hho];exact h1,by rw[put_size.1,H.sz];exact stput_len.symm,by rw[put_size.2,hho];exact H.df.mo h3,fun i x hx=> ?_,fun b hb=> ?_,H.bl.trans h4⟩,by rw[hho];exact h3⟩
 · rw[hho]
   have hx:(σ.put o.dst v)[i]? =some x:=hx
   have hlt:=(List.getElem?_eq_some_iff.1 hx).1
   rw[stput_len]at hlt
   have hg:(σ.put o.dst v).getD i .un=x:=by rw[List.getD_eq_getElem?_getD,hx];rfl
   rw[stput_get]at hg
   rw[put_get (by rw[H.sz];exact hlt)]
   by_cases hd:o.dst=some i
   · rw[if_pos ⟨hd,hlt⟩]at hg
     rw[if_pos hd]
     subst hg
     exact h2
   · rw[if_neg (fun e=>hd e.1)]at hg
     rw[if_neg hd]
     subst hg
     exact(H.slot i).mo h3
 · rcases h5 b hb with h6|h6
   · exact Nat.lt_of_lt_of_le (H.nm b h6) (apps_len ws).1
   · exact(apps_len ws).2 b h6
theorem seq_okR {rest:List Oper} {Fx:Fence} {nf:Nat} (hFx:WideF Fx) (hnd:nodef ops=true) (E:World→(Nat→Prop)→(Nat→Option Value)→Prop) (hE:∀ w A m w' A' m',E w A m→Mo w A m w' A' m'→E w' A' m') {dfs:List Deferred} {Q:Exit→Act→World→Prop}:∀ (l:List Oper) (g:List (Nat×Bool)) (k:Nat) (σ σ':St) (fps:List Fp) (sc sc':List (Fa P)) (ks:Ks) (a:Act) (m:Nat→Option Value) (w:World),ops.toList.drop k=l++rest→regR P ops l g σ sc=some (σ',fps,sc',ks)→(∀ p∈ks,p.1=p.2)→
  SOk B M w0 σ a m w→E w (Av M σ.ho m) m→a.defers=dfs→(∀ a m w,SOk B M w0 σ' a m w→E w (Av M σ'.ho m) m→a.defers=dfs→wpListIn Fx nf P ops Q rest a w)→wpListIn Fx nf P ops Q (l++rest) a w
 |[],g,k,σ,σ',fps,sc,sc',ks,a,m,w,_,e,_,H,h0,hds,hQ=>by
  simp only[regR,Option.some.injEq,Prod.mk.injEq]at e
  obtain⟨rfl,rfl,rfl,rfl⟩:=e
  exact hQ a m w H h0 hds
 | o :: r, g, k, σ, σ', fps, sc, sc', ks, a, m, w, hl, e, hk, H, h0, hds, hQ => by
  unfold regR at e
  split at e
  · rename_i g1 σ1 fp sc1 k1 hs
    split at e
    · rename_i σ2 fps2 sc2 k2 hr
      simp only[Option.some.injEq,Prod.mk.injEq]at e
      obtain⟨rfl,rfl,rfl,rfl⟩:=e
      have hkl:k<ops.toList.length:=by
       rcases Nat.lt_or_ge k ops.toList.length with h|h
       · exact h
       · rw[List.drop_of_length_le h]at hl;cases hl
      have hkl':k<ops.size:=by simpa using hkl
      rw[List.drop_eq_getElem_cons hkl]at hl
      injection hl with hl1 hl2
      have ho:ops[k]? =some o:=by rw[Array.getElem?_eq_getElem hkl',←hl1];simp
      obtain⟨v,ws,rfl,hf,hst⟩:=stepR_ok (B:=B) (M:=M) hs fun p hp=>hk p (by simp[hp])
      have h1:=hst a w σ.ho m H.K ⟨fun t _=>H.slot t,H.K.gl⟩ (fun j c d _ _=>H.slot d) (fun _ _=>rfl) (fun _ _ _=>rfl) (fun b _ hb=>⟨by simp only[St.ho,List.getD_eq_getElem?_getD,List.getElem?_eq_none hb];rfl,by
       cases hm:m b with
       |none=>rfl
       |some x=>have:=H.nm b (by rw[hm];intro e;cases e);omega⟩)
      have h2:wpListIn Fx nf P ops Q ((o::r)++rest) a w=wpOpIn Fx nf P ops Q k (wpListIn Fx nf P ops Q (r++rest)) a w:=by
       unfold wpOpIn
       rw[ho]
       rfl
      rw[h2]
      refine wpOp_of hFx hnd ho h1 fun u w' hp=> ?_
      obtain⟨m',H',hmo⟩:=H.step (o:=o) hp
      exact seq_okR hFx hnd E hE r _ (k+1) _ _ _ _ _ _ _ m' w' hl2 hr (fun p hp=>hk p (by simp[hp])) H' (hE _ _ _ _ _ _ h0 hmo) (put_size.2.trans hds) hQ
    · cases e
  · cases e
theorem seq_ok {Fx:Fence} {nf:Nat} (hFx:WideF Fx) (hnd:nodef ops=true) (E:World→(Nat→Prop)→(Nat→Option Value)→Prop) (hE:∀ w A m w' A' m',E w A m→Mo w A m w' A' m'→E w' A' m') {dfs:List Deferred} {Q:Exit→Act→World→Prop}:∀ (l:List Oper) (g:List (Nat×Bool)) (k:Nat) (σ σ':St) (fps:List Fp) (sc sc':List (Fa P)) (ks:Ks) (a:Act) (m:Nat→Option Value) (w:World),ops.toList.drop k=l→regR P ops l g σ sc=some (σ',fps,sc',ks)→(∀ p∈ks,p.1=p.2)→
  SOk B M w0 σ a m w→E w (Av M σ.ho m) m→a.defers=dfs→(∀ a m w,SOk B M w0 σ' a m w→E w (Av M σ'.ho m) m→a.defers=dfs→Q .normal a w)→wpListIn Fx nf P ops Q l a w:=fun l g k σ σ' fps sc sc' ks a m w hl e hk H h0 hds hQ=>by
 have:=seq_okR (rest:=[]) (nf:=nf) (Q:=Q) hFx hnd E hE l g k σ σ' fps sc sc' ks a m w (by rw[List.append_nil];exact hl) e hk H h0 hds hQ
 rwa [List.append_nil]at this
end
end Go.Proofs.YtfdfbenejkmnlaaGreatDoor.E
