/-
 THE SECOND ENGINE, 13: functions: from the arguments to the result; loops.
-/
import Derived.Test.YtfdfbenejkmnlaaGreatDoorEmI
namespace Go.Proofs.YtfdfbenejkmnlaaGreatDoor.E
open Go.RowKit
set_option linter.unusedVariables false
set_option linter.unusedSimpArgs false
section
variable {P:Program} {f:FuncId} {fn:Func} {d:RD}
/-- Less is told. -/
theorem Mo.sub {M:Nat→Prop} {h h':Nat→HO} {m:Nat→Option Value} {w:World} (hs:∀ b,h' b=h b∨h' b= .dead):Mo w (Av M h m) m w (Av M h' m) m:=
 ⟨Nat.le_refl _,fun _ _ _=>rfl,fun g e=> .inl (e.imp id fun⟨b,v,h1,h2⟩=>⟨b,v,(hs b).elim (fun e=>e▸h1) (fun e=>by rw[e]at h1;cases h1),h2⟩),fun _ _ e=>e⟩
theorem Ok.sub {B:Nat→Prop} {M:Nat→Prop} {h h':Nat→HO} {m:Nat→Option Value} {w:World} (K:Ok B M h m w) (hs:∀ b,h' b=h b∨h' b= .dead):Ok B M h' m w:=by
 have hl:∀ {b x},h' b=x→x≠ .dead→h b=x:=fun{b x} e hx=>(hs b).elim (fun e'=>e'▸e) fun e'=>absurd (e.symm.trans e') hx
 refine⟨fun b T l e=> ?_,fun b T z l e=> ?_,fun b x e=> ?_,fun b l e=> ?_,fun c c' v v' g h1 h2=> ?_,K.mb,K.bs,K.gl.mo (Mo.sub hs)⟩
 · obtain⟨g',cs,h1,h2,h3,h4,h5⟩:=K.bx b T l (hl e (by simp))
   exact⟨g',cs,h1,h2,h3,h4,fun j x hx=>(h5 j x hx).mo (Mo.sub hs)⟩
 · obtain⟨v,xs,h1,h2,h3,h0,h4⟩:=K.rw b T z l (hl e (by simp))
   exact⟨v,xs,h1,h2,h3,h0,fun j x hx=>(h4 j x hx).mo (Mo.sub hs).no⟩
 · obtain⟨v,h1,h2⟩:=K.fz b x (hl e (by simp))
   exact⟨v,h1,h2.mo (Mo.sub hs).no⟩
 · obtain⟨g,h1,h2,h3,h4⟩:=K.mp b l (hl e (by simp))
   exact⟨g,h1,h2,h3,h4.mo (Mo.sub hs)⟩
 · exact K.inj c c' v v' g ((hs c).elim (fun e=>e▸h1) (fun e=>by rw[e]at h1;cases h1)) ((hs c').elim (fun e=>e▸h2) (fun e=>by rw[e]at h2;cases h2))
def keepT (ts:List Nat):List V→Nat→List V
 |[],_=>[]
 |x::r,i=>(match ts.contains i with|true=>x|false=> .un)::keepT ts r (i+1)
def keepH (bs:List Nat):List HO→Nat→List HO
 |[],_=>[]
 |x::r,i=>(match bs.contains i with|true=>x|false=> .dead)::keepH bs r (i+1)
def keep (ts bs:List Nat) (σ:St):St:=⟨keepT ts σ.t 0,keepH bs σ.h 0⟩
theorem keepT_ok {ts:List Nat}:∀ (l:List V) (i:Nat),(keepT ts l i).length=l.length∧∀ (j:Nat) (x:V),(keepT ts l i)[j]? =some x→x=V.un∨l[j]? =some x
 |[],i=>⟨rfl,fun j x h=>by simp[keepT]at h⟩
 |x::r,i=>by
  obtain⟨h1,h2⟩:=keepT_ok (ts:=ts) r (i+1)
  refine⟨by simp[keepT,h1],fun j y hy=> ?_⟩
  cases j with
  |zero=>
    simp only[keepT,List.getElem?_cons_zero,Option.some.injEq]at hy
    subst hy
    split
    · exact .inr rfl
    · exact .inl rfl
  |succ j=>exact h2 j y (by simpa[keepT]using hy)
theorem keepH_ok {bs:List Nat}:∀ (l:List HO) (i:Nat),(keepH bs l i).length=l.length∧∀ j,(keepH bs l i).getD j .dead=l.getD j .dead∨(keepH bs l i).getD j .dead= .dead
 |[],i=>⟨rfl,fun j=> .inl rfl⟩
 |x::r,i=>by
  obtain⟨h1,h2⟩:=keepH_ok (bs:=bs) r (i+1)
  refine⟨by simp[keepH,h1],fun j=> ?_⟩
  cases j with
  |zero=>
    simp only[keepH,List.getD_cons_zero]
    split
    · exact .inl rfl
    · exact .inr rfl
  |succ j=>simpa[keepH]using h2 j
theorem SOk.keep {B:Nat→Prop} {M:Nat→Prop} {w0 w:World} {σ:St} {a:Act} {m:Nat→Option Value} (H:SOk B M w0 σ a m w) (ts bs:List Nat):SOk B M w0 (keep ts bs σ) a m w:=by
 have hs:∀ b,(E.keep ts bs σ).ho b=σ.ho b∨(E.keep ts bs σ).ho b= .dead:=fun b=>(keepH_ok (bs:=bs) σ.h 0).2 b
 refine⟨H.K.sub hs,H.sz.trans (keepT_ok (ts:=ts) σ.t 0).1.symm,H.df.mo (Mo.sub hs),fun i x hx=> ?_,fun b hb=> ?_,H.bl⟩
 · rcases(keepT_ok (ts:=ts) σ.t 0).2 i x hx with h1|h1
   · subst h1;exact .un _ _
   · exact(H.tm i x h1).mo (Mo.sub hs)
 · have:=H.nm b hb
   rw[show(E.keep ts bs σ).h.length=σ.h.length from(keepH_ok (bs:=bs) σ.h 0).1]
   exact this
/-- The marks are taken off. -/
theorem Ok.put {B:Nat→Prop} {M:Nat→Prop} {h:Nat→HO} {m:Nat→Option Value} {w:World} (K:Ok B M h m w) {D:Nat} {o o':Obj} (ho:w.heap[D]? =some o) (hc:o.isCells=false) (hmp:∀ es clk,o≠ .map es clk:=by intro _ _ e;cases e):Ok B M h m (w.putObj D o'):=by
 have hb:∀ {b:Nat} {cs:Array Value} {T:TypeId} {fr:Nat×Nat},w.heap[b]? =some (Obj.cells cs T fr)→(w.putObj D o').heap[b]? =some (Obj.cells cs T fr):=fun{b cs T fr} hb=>(World.putObj_heap_other fun e=>by
  subst e
  rw[hb]at ho
  injection ho with ho
  subst ho
  cases hc).trans hb
 refine⟨fun b T l e=> ?_,fun b T z l e=> ?_,fun b x e=> ?_,fun b l e=> ?_,K.inj,K.mb,fun g hg=>by simpa[World.putObj]using K.bs g hg,fun p hp=>(K.gl p hp).put ho hc⟩
 · obtain⟨g',cs,h1,h2,h3,h4,h5⟩:=K.bx b T l e
   exact⟨g',cs,h1,h2,hb h3,h4,fun j x hx=>(h5 j x hx).put ho hc⟩
 · obtain⟨v,xs,h1,h2,h3,h0,h4⟩:=K.rw b T z l e
   refine⟨v,xs,h1,h2,⟨h3.1, ?_⟩,h0,fun j x hx=>(h4 j x hx).put ho hc⟩
   rcases h3.2 with h5|⟨g',cap,cur,h5,hB,hh,r⟩
   · exact .inl h5
   · exact .inr ⟨g',cap,cur,h5,hB,hb hh,r⟩
 · obtain⟨v,h1,h2⟩:=K.fz b x e
   exact⟨v,h1,h2.put ho hc⟩
 · obtain⟨g,h1,h2,h3,es,clk,h4,h5,h6⟩:=K.mp b l e
   have hne:g≠D:=fun e=>by
    subst e
    rw[ho]at h4
    injection h4 with h4
    exact hmp _ _ h4
   exact⟨g,h1,h2,by simpa[World.putObj]using h3,es,clk,(World.putObj_heap_other hne).trans h4,h5,fun j x e hx he=>⟨(h6 j x e hx he).1.put ho hc,(h6 j x e hx he).2.put ho hc⟩⟩
theorem SOk.drop {B:Nat→Prop} {M:Nat→Prop} {w0 w:World} {σ:St} {a:Act} {m:Nat→Option Value} (H:SOk B M w0 σ a m w) (hrs:unmk a.defers=[]) {d:Deferred} {ds:List Deferred} (hd:a.defers=d::ds):
  ∃ D w',d.target= .collected D∧(Instr.takeDeferred D).run P w= .ok [] w'∧SOk B M w0 σ {a with defers:=ds} m w':=by
 obtain⟨Ds,h0,hn,h⟩:=H.df
 rw[marks_all hrs,hd]at h0
 cases Ds with
 |nil=>cases h0
 |cons D Ds=>
   simp only[List.map_cons,List.cons.injEq]at h0
   obtain⟨rfl,rfl⟩:=h0
   obtain⟨h1,h2,h3⟩:=h D (List.mem_cons_self ..)
   rw[List.nodup_cons]at hn
   refine⟨D,w.putObj D (.deferred none),rfl,run_takeDeferred h2,⟨H.K.put h2 rfl,H.sz,⟨Ds,marks_all (rest_tl (d:=mark D) (by rw[←hd];exact hrs)),hn.2,fun D' hD'=> ?_⟩,fun i x hx=>(H.tm i x hx).put h2 rfl,H.nm, ?_⟩⟩
   · obtain⟨q1,q2,q3⟩:=h D' (List.mem_cons_of_mem _ hD')
     exact⟨q1,(World.putObj_heap_other fun e=>hn.1 (by rw[←e];exact hD')).trans q2,q3⟩
   · exact H.bl.trans ⟨rfl,rfl,rfl,by simp[World.putObj],fun k hk=>World.putObj_heap_other fun e=>h1 (e▸hk)⟩
theorem marks_off {B:Nat→Prop} {M:Nat→Prop} {w0:World} {σ:St} {m:Nat→Option Value} {cs:List Frame}:∀ (n:Nat) (a:Act) (w:World) (fr:Frame),a.defers.length=n→unmk a.defers=[]→SOk B M w0 σ a m w→fr.mode= .returning→fr.defers=a.defers→fr.tmps=a.tmps→
  ∃ w' fr',Steps P (lone fr cs w) (lone fr' cs w')∧SOk B M w0 σ {a with defers:=[]} m w'∧fr'.mode= .returning∧fr'.defers=[]∧fr'.tmps=a.tmps∧fr'.kind=fr.kind∧fr'.fn=fr.fn
 |0,a,w,fr,hl,hrs,H,h1,h2,h3=>by
  have h0:a.defers=[]:=List.length_eq_zero_iff.1 hl
  have ha:a={a with defers:=[]}:=by cases a;simp at h0;subst h0;rfl
  refine⟨w,fr,Steps.refl _ _,by rw[←ha];exact H,h1,h2.trans h0,h3,rfl,rfl⟩
 |n+1,a,w,fr,hl,hrs,H,h1,h2,h3=>by
  match hd:a.defers with
  |[]=>rw[hd]at hl;cases hl
  |d::ds=>
    obtain⟨D,w',q1,q2,q3⟩:=H.drop (P:=P) hrs hd
    obtain⟨w2,fr2,k1,k2,k3,k4,k5,k6,k7⟩:=marks_off (cs:=cs) n {a with defers:=ds} w' {fr with defers:=ds} (by rw[hd]at hl;simpa using hl) (rest_tl (d:=d) (by rw[←hd];exact hrs)) q3 h1 rfl h3
    refine⟨w2,fr2,.trans (.one (step_collected (by rw[h1];intro e;cases e) (h2.trans hd) q1 q2)) ?_,k2,k3,k4,k5,k6,k7⟩
    simpa using k1
theorem results_ok {B:Nat→Prop} {M:Nat→Prop} {w0 w:World} {σ:St} {a:Act} {m:Nat→Option Value} (H:SOk B M w0 σ a m w) {l:List V} (hl:resV P σ fn.results.toList=some l):∃ u,(results fn a.tmps).run P w= .ok u w∧Rep w (Av M σ.ho m) m u (oneV l):=by
 obtain⟨us,h1,h2,h3⟩:=res_ok H fn.results.toList l hl
 have h4:(fn.results.mapM (resF a.tmps)).run P w= .ok us.toArray w:=by
  rw[Array.mapM_eq_mapM_toList]
  rw[Sem.run_map,h1]
  rfl
 have hq:results fn a.tmps=(fn.results.mapM (resF a.tmps) >>= fun vs=>pure (if h:vs.size=1 then vs[0]else .tuple vs)):=by
  unfold results
  congr 1
 refine⟨if h:us.toArray.size=1 then us.toArray[0]else .tuple us.toArray, ?_, ?_⟩
 · rw[hq,Sem.run_bind,h4]
   rfl
 · match l,us,h2,h3 with
   |[x],[u],_,h3=>
     have:=h3 0 x rfl
     simpa[oneV]using this
   |[],[],_,h3=>exact .tu _ _ _ rfl fun j x h=>by simp at h
   |x::y::l,u::z::us,h2,h3=>
     rw[dif_neg (by simp)]
     refine .tu _ _ _ (by simpa using h2) fun j y hy=> ?_
     have:=h3 j y hy
     rwa [←getD_toList]
/-- The result, as the caller gets it. -/
theorem res_out {fn:Func} {d:RD} {B M:Nat→Prop} {m0:Nat→Option Value} {w0 w:World} {σ:St} {a:Act} {m:Nat→Option Value} (hM:∀ j,j<d.n→m j=m0 j∧m0 j≠none) (ho:outV P fn σ d=some d) (H:SOk B M w0 σ a m w):∃ u,(results fn a.tmps).run P w= .ok u w∧d.ok B M m0 w u:=by
 unfold outV at ho
 split at ho
 · rename_i d0 l hl
   split at ho
   · rename_i v ks hv
     injection ho with ho
     injection ho with ho
     subst ho
     obtain⟨u,h4,h5⟩:=results_ok H hl
     refine⟨u,h4, ?_⟩
     exact exp_rep (h0:=σ.ho) (A':=M) H.K (fun g e=> .inl e) 6 _ _ _ hv (fun b hb=>⟨rfl,fun v g e1 e2 e3=>
       (H.K.blk (exp_live 6 _ _ _ hv b hb) e1 e2).1 (H.K.mb g e3)⟩) u (thV_ok H.K 6 _ _ (fun _ _=>rfl) h5)
   · cases ho
 · rename_i k hs d0 l hl
   injection ho with ho
   obtain⟨u,h4,h5⟩:=results_ok H hl
   refine⟨u,h4, ?_⟩
   rw[←ho]
   refine⟨σ.ho,m,H.K,fun j hj=>(hM j hj).1,fun j hj=> ?_,thV_ok H.K 6 _ _ (fun _ _=>rfl) h5⟩
   simp only[List.length_map,List.length_range]at hj
   rw[List.getD_eq_getElem?_getD,List.getElem?_map,List.getElem?_range hj];rfl
 · rename_i T z l b hl
   split at ho
   · rename_i T' z' l' hb
     injection ho with ho
     injection ho with e1 e2 e3
     subst e1;subst e2;subst e3
     obtain⟨u,h4,h5⟩:=results_ok H hl
     refine⟨u,h4, ?_⟩
     obtain⟨v,xs,h1,h2,h3,h0,h6⟩:=H.K.rw b _ _ _ hb
     have h5:Rep w (Av M σ.ho m) m u (.ow b):=h5
     cases h5 with
     |ow _ _ ad n c hm=>
       rw[h1]at hm
       injection hm with hm
       subst hm
       exact⟨h2,xs,h3,h0,fun j x hx=>(h6 j x hx).mo ⟨Nat.le_refl _,fun _ _ _=>rfl,fun g e=> .inl (e.imp id fun e=>⟨b,_,by rw[hb];rfl,h1,e⟩),fun _ _ e=>e⟩⟩
   · cases ho
 · cases ho
theorem out_rest {fn:Func} {σ:St} {d:RD} {m0:Nat→Option Value} (ho:outV P fn σ d=some d):d.rest m0=[]:=by
 cases d with
 |df k ds v=>unfold outV at ho;cases h:resV P σ fn.results.toList<;>rw[h]at ho<;>cases ho
 |_=>rfl
theorem Gd.fin (hf:P.funcs[f]? =some fn) {td:List Item} {σ:St} (he:isEnd td=true) (ho:outV P fn σ d=some d):Gd P f d td σ:=by
 intro w0 B M m0 b a m w cs hfn hkd hrs hM H
 have hres:∀ {a:Act} {w:World},SOk B M w0 σ a m w→∃ u,(results fn a.tmps).run P w= .ok u w∧d.ok B M m0 w u:=fun H=>res_out hM ho H
 have hfin:∀ fr:Frame,Steps P (lone (b.at a td) cs w) (lone fr cs w)→fr.mode= .returning→fr.defers=a.defers→fr.kind= .normal→fr.fn=f→fr.tmps=a.tmps→∃ e w' fr,(∃ v_1,e= .returned v_1∧d.ok B M m0 w' v_1∧Bl B w0 w')∧Comes P (lone (b.at a td) cs w) (lone fr cs w') e∧fr.fn=f∧fr.leaving P w' e:=by
  intro fr hc q1 q2 q3 q4 q5
  obtain⟨w',fr',k1,k2,k3,k4,k5,k6,k7⟩:=marks_off (P:=P) (cs:=cs) _ a w fr rfl (hrs.trans (out_rest ho)) H q1 q2 q5
  obtain⟨u,h4,h6⟩:=hres k2
  exact⟨.returned u,w',fr',⟨u,rfl,h6,k2.bl⟩,Steps.trans hc k1,k7.trans q4,k3,k4,k6.trans q3,fn,by rw[k7,q4];exact hf,by rw[k5];exact h4⟩
 cases td with
 |nil=>exact hfin _ (Steps.one step_end) rfl rfl hkd hfn rfl
 |cons x k=>
   cases x with
   |code c=>
     cases c with
     |ret=>exact hfin _ (Steps.one step_ret) rfl rfl hkd hfn rfl
     |_=>cases he
   |_=>cases he
def st0T (fn:Func) (hs:List HO) (ds:List V):St:=⟨ds++List.replicate (fn.ntmps - ds.length) .un,hs⟩
/-- **A function**, from its beginning. -/
theorem PureT.of_gd (hf:P.funcs[f]? =some fn) (hb:fn.body.isSome=true) (hok:okF P f) {hs:List HO} {ds:List V} (h:Gd P f d (body fn) (st0T fn hs ds)) (hdr:(∀ m0,d.rest m0=[]):=by intro;rfl):PureT P f hs ds d:=by
 refine⟨hok,fun w B M m args hK hm hn hargs cs=> ?_⟩
 obtain⟨c,hc⟩:=Option.isSome_iff_exists.1 hb
 let b:Frame:={(default:Frame)with fn:=f,kind:= .normal}
 have henter:Frame.enter P f args .normal=b.at {tmps:=args++Array.replicate (fn.ntmps - args.size) undef,defers:=[]} [.code c]:=by
  simp[Frame.enter,Frame.at,hf,hc,b]
 have hbody:body fn=[.code c]:=by simp[body,hc]
 rw[hbody]at h
 obtain⟨e,w',fr,⟨v,rfl,h2,h3⟩,h4,h5⟩:=h w B M m b {tmps:=args++Array.replicate (fn.ntmps - args.size) undef,defers:=[]} m w cs rfl rfl (hdr m).symm (fun j hj=>⟨rfl,hn j hj⟩)
  ⟨hK,by simp[st0T,hargs.1],DfOk.nil,fun i x hx=>(by
   have hx:(ds++List.replicate (fn.ntmps - ds.length) .un)[i]? =some x:=hx
   rcases Nat.lt_or_ge i ds.length with h1|h1
   · rw[List.getElem?_append_left h1]at hx
     have h2:=hargs.2 i x hx
     have h3:(args++Array.replicate (fn.ntmps - args.size) undef).getD i undef=args.getD i undef:=by
      rw[Array.getD_eq_getD_getElem?,Array.getD_eq_getD_getElem?,Array.getElem?_append_left (by rw[hargs.1];exact h1)]
     show Rep _ _ _ ((args++Array.replicate (fn.ntmps - args.size) undef).getD i undef) _
     rw[h3]
     exact h2
   · rw[List.getElem?_append_right h1,List.getElem?_replicate]at hx
     split at hx
     · injection hx with hx;subst hx;exact .un _ _
     · cases hx),fun b hb=>hm b hb,Bl.refl _ _⟩
 exact⟨.returned v,w',fr,⟨v,rfl,h2,h3⟩,by rw[henter];exact h4,h5⟩
theorem Av.none {M:Nat→Prop} {h:Nat→HO} {g:Nat} (e:Av M h no g):M g:=e.elim id fun⟨c,v,h1,h2,h3⟩=>by cases h2
theorem PureT.pure {ds:List V} {D:RD} (hn:D.n=0) (h:PureT P f [] ds D):Pure P f ds D:=by
 refine⟨h.1,fun w M args hM hargs=> ?_⟩
 have hd:∀ b:Nat,([]:List HO).getD b .dead= .dead:=fun b=>rfl
 have hmo:Mo w M no w (Av M (fun b:Nat=>([]:List HO).getD b .dead) no) no:=⟨Nat.le_refl _,fun _ _ _=>rfl,fun g e=> .inl e.none,fun _ _ e=>e⟩
 refine(h.2 w (fun g=>g<w.heap.size) M no args ⟨fun b T l e=>(by rw[hd b]at e;cases e),fun b T z l e=>(by rw[hd b]at e;cases e),fun b x e=>(by rw[hd b]at e;cases e),fun b l e=>(by rw[hd b]at e;cases e),fun b b' v v' g e=>(by simp only[hd b]at e;cases e),hM,fun g hg=>hg,hargs.gl.mo hmo⟩ (fun b hb=>absurd rfl hb) (fun b hb=>by rw[hn]at hb;omega) ⟨hargs.1,fun j x hx=>(hargs.2 j x hx).mo hmo,hargs.gl.mo hmo⟩).mono fun e w' ⟨v,h1,h2,h3⟩=>⟨v,h1,h2,h3.below⟩
theorem Pure.of_gd (hf:P.funcs[f]? =some fn) (hb:fn.body.isSome=true) (hok:okF P f) {ds:List V} (hn:d.n=0) (h:Gd P f d (body fn) (st0 fn ds)):Pure P f ds d:=PureT.pure hn (PureT.of_gd hf hb hok h (RD.rest0 hn))
theorem met_told {r:Option (List (List V)×List (List V)×RD)} {d:RD} (h:met r=told r d):∃ ks,r=some (ks,ks,d):=by
 cases r with
 |none=>cases h
 |some x=>
   obtain⟨x1,x2,x3⟩:=x
   simp only[met,told,Prod.mk.injEq,true_and]at h
   obtain⟨rfl,rfl⟩:=h
   exact⟨_,rfl⟩
theorem ks_ok:∀ {ks:Ks},ks.map (·.1)=ks.map (·.2)→∀ p∈ks,p.1=p.2
 |[],_,p,hp=>by cases hp
 |q::r,h,p,hp=>by
  simp only[List.map_cons,List.cons.injEq]at h
  rcases List.mem_cons.1 hp with rfl|hp
  · exact h.1
  · exact ks_ok h.2 p hp
/-- To the end. -/
theorem Gd.end_ (hm:P.follows .mixedOrders=true) (hf:P.funcs[f]? =some fn) {td:List Item} {σ:St} (sc:List (Fa P)) (e:met (runE P fn d td σ sc)=told (runE P fn d td σ sc) d):Gd P f d td σ:=by
 obtain⟨ks,h1⟩:=met_told e
 unfold runE at h1
 split at h1
 · rename_i td' σ' ks' hr
   split at h1
   · rename_i he
     split at h1
     · rename_i v ho
       simp only[Option.some.injEq,Prod.mk.injEq]at h1
       obtain⟨h2,h3,rfl⟩:=h1
       exact run_ok hm _ _ _ _ _ _ _ _ hr (ks_ok (h2.trans h3.symm)) (.fin hf he ho)
     · cases h1
   · cases h1
 · cases h1
/-- Names that are used no more are let go of. -/
def ref1 (p:Nat→Bool):V→Bool
 | .lp b _=>p b
 | .rp b _ _ _=>p b
 | .ow b=>p b
 | .nm b=>p b
 | .os b _ _ _=>p b
 | .bs b _ _ _=>p b
 | .ag _=>false
 | .tu _=>false
 | .cl _ []=>true
 | .cl _ _=>false
 |_=>true
def refs (p:Nat→Bool):V→Bool
 | .ag l=>l.all (ref1 p)
 | .tu l=>l.all (ref1 p)
 | .cl _ l=>l.all (ref1 p)
 |x=>ref1 p x
def refH (p:Nat→Bool):HO→Bool
 | .bx _ l=>l.all (ref1 p)
 |_=>true
def isDead:HO→Bool
 | .dead=>true
 |_=>false
/-- An own row takes a dead object's name. -/
def nb (b c k:Nat):Bool:= !(Nat.beq k b||Nat.beq k c)
def mvV (b c:Nat):V→V
 | .ow k=>match Nat.beq k c with
   |true=> .ow b
   |false=>match Nat.beq k b with
     |true=> .un
     |false=> .ow k
 |x=>match refs (nb b c) x with
   |true=>x
   |false=> .un
def mvH (b c:Nat):HO→HO
 | .bx T l=> .bx T (l.map (mvV b c))
 |o=>o
def isRow:HO→Bool
 | .rw _ _ _=>true
 |_=>false
def mv (b c:Nat) (σ:St):St:=match Nat.blt b c&&(isDead (σ.ho b)&&isRow (σ.ho c))with
 |true=>⟨σ.t.map (mvV b c),((σ.h.map (mvH b c)).set b (σ.ho c)).set c .dead⟩
 |false=>σ
section
variable {B:Nat→Prop} {M:Nat→Prop} {w0 w:World} {σ:St} {a:Act} {m m':Nat→Option Value} {A A':Nat→Prop}
theorem own_ne {x:HO} (h:x.own=true):x≠ .dead:=fun e=>by rw[e]at h;cases h
theorem ho_lt {b:Nat} (h:σ.ho b≠ .dead):b<σ.h.length:=by
 rcases Nat.lt_or_ge b σ.h.length with h1|h1
 · exact h1
 · exact absurd (by simp only[St.ho,List.getD_eq_getElem?_getD,List.getElem?_eq_none h1];rfl) h
theorem ref1_ok {p:Nat→Bool} (hm:∀ b,p b=true→m' b=m b) (g:Mo w A no w A' no) {u:Value} {x:V} (h:Rep w A m u x) (hx:ref1 p x=true):Rep w A' m' u x:=by
 cases x with
 |lp b o=>
   cases h with
   |lp _ _ _ g' h'=>exact .lp _ _ _ _ ((hm b (by simpa[ref1]using hx)).trans h')
 |rp b z i o=>
   cases h with
   |rp _ _ _ _ _ g' n' c h'=>exact .rp _ _ _ _ _ _ _ _ ((hm b (by simpa[ref1]using hx)).trans h')
 |os b z i j=>
   cases h with
   |os _ _ _ _ _ g' n' c h' h1 h2=>exact .os _ _ _ _ _ _ _ _ ((hm b (by simpa[ref1]using hx)).trans h') h1 h2
 |bs b o n c=>
   cases h with
   |bs _ _ _ _ _ g' h'=>exact .bs _ _ _ _ _ _ ((hm b (by simpa[ref1]using hx)).trans h')
 |ow b=>
   cases h with
   |ow _ _ a n' c h'=>exact .ow _ _ _ _ _ ((hm b (by simpa[ref1]using hx)).trans h')
 |nm b=>
   cases h with
   |nm _ _ _ h'=>exact .nm _ _ _ ((hm b (by simpa[ref1]using hx)).trans h')
 |ag l=>cases hx
 |tu l=>cases hx
 |cl f l=>
   cases l with
   |nil=>
     cases h with
     |cl _ _ cs _ h1 h2=>exact .cl _ f cs [] h1 fun j x hx=>by simp at hx
   |cons=>cases hx
 |k v=>cases h;exact .k _ _
 |op q=>cases h
 |un=>exact .un _ _
 |sl l=>exact((shut h (fun _ e=>e) (by simp) (by simp) (by simp) (by simp) (by simp) (by simp) (by simp)).mo g).mo Mo.up
 |ip l=>exact((shut h (fun _ e=>e) (by simp) (by simp) (by simp) (by simp) (by simp) (by simp) (by simp)).mo g).mo Mo.up
 |nl=>cases h;exact .nl _
theorem refs_ok {p:Nat→Bool} (hm:∀ b,p b=true→m' b=m b) (g:Mo w A no w A' no) {u:Value} {x:V} (h:Rep w A m u x) (hx:refs p x=true):Rep w A' m' u x:=by
 cases x with
 |ag l=>
   cases h with
   |ag _ cs _ h1 h2=>
     simp only[refs,List.all_eq_true]at hx
     exact .ag _ cs l h1 fun j y hy=>ref1_ok hm g (h2 j y hy) (hx y (List.mem_of_getElem? hy))
 |tu l=>
   cases h with
   |tu _ cs _ h1 h2=>
     simp only[refs,List.all_eq_true]at hx
     exact .tu _ cs l h1 fun j y hy=>ref1_ok hm g (h2 j y hy) (hx y (List.mem_of_getElem? hy))
 |cl f l=>
   cases h with
   |cl _ _ cs _ h1 h2=>
     simp only[refs,List.all_eq_true]at hx
     exact .cl _ f cs l h1 fun j y hy=>ref1_ok hm g (h2 j y hy) (hx y (List.mem_of_getElem? hy))
 |_=>exact ref1_ok hm g h hx
theorem isDead_eq {o:HO} (h:isDead o=true):o= .dead:=by cases o<;>simp[isDead]at h;rfl
theorem nb_ne {b c k:Nat} (h:nb b c k=true):k≠b∧k≠c:=by
 unfold nb at h
 simp only[Bool.not_eq_true',Bool.or_eq_false_iff]at h
 exact⟨fun e=>by subst e;simp at h,fun e=>by subst e;simp at h⟩
theorem mvH_own {b c:Nat} {o:HO} (h:(mvH b c o).own=true):o.own=true:=by
 cases o with
 |bx=>rfl
 |_=>exact h
theorem mvV_ok {b c:Nat} (hmb:m' b=m c) (hmk:∀ k,k≠b→k≠c→m' k=m k) (g:Mo w A no w A' no) {u:Value} {y:V} (h0:Rep w A m u y):Rep w A' m' u (mvV b c y):=by
 have hnb:∀ k,nb b c k=true→m' k=m k:=fun k hk=>hmk k (nb_ne hk).1 (nb_ne hk).2
 have hgen:∀ z,refs (nb b c) y=z→Rep w A' m' u (match z with|true=>y|false=> .un):=fun z hz=>by
  cases z with
  |true=>exact refs_ok hnb g h0 hz
  |false=>exact .un _ _
 cases y with
 |ow k=>
   show Rep w _ m' _ (match Nat.beq k c with|true=> .ow b|false=>match Nat.beq k b with|true=> .un|false=> .ow k)
   cases h0 with
   |ow _ _ ad n' c' hm0=>
     cases hk:Nat.beq k c with
     |true=>
       have:=Nat.eq_of_beq_eq_true hk
       subst this
       exact .ow _ _ _ _ _ (hmb.trans hm0)
     |false=>
       cases hk2:Nat.beq k b with
       |true=>exact .un _ _
       |false=>exact .ow _ _ _ _ _ ((hmk k (Nat.ne_of_beq_eq_false hk2) (Nat.ne_of_beq_eq_false hk)).trans hm0)
 |_=>exact hgen _ rfl
theorem mv_ok (H : SOk B M w0 σ a m w) (b c : Nat) : ∃ m', SOk B M w0 (mv b c σ) a m' w ∧ (∀ k, k < b → m' k = m k) ∧ (∀ k, k ≠ b → k ≠ c → m' k = m k) ∧ Mo w (Av M σ.ho m) no w (Av M (mv b c σ).ho m') no := by
 unfold mv
 split
 · rename_i hc
   simp only[Bool.and_eq_true,Nat.blt_eq]at hc
   obtain⟨hbc,hd,hr⟩:=hc
   have hd:=isDead_eq hd
   have hcl:c<σ.h.length:=ho_lt (σ:=σ) (fun e=>by rw[e]at hr;cases hr)
   have hcd:(σ.ho c).own=true:=by cases hx:σ.ho c with
    |rw=>rfl
    |_=>rw[hx]at hr;cases hr
   let σ':St:=⟨σ.t.map (mvV b c),((σ.h.map (mvH b c)).set b (σ.ho c)).set c .dead⟩
   have hho : ∀ k, σ'.ho k = if k = c then .dead else if k = b then σ.ho c else mvH b c (σ.ho k) := fun k => by
    show(((σ.h.map (mvH b c)).set b (σ.ho c)).set c .dead).getD k .dead=_
    rw[List.getD_eq_getElem?_getD,List.getElem?_set,List.getElem?_set]
    by_cases e1:k=c
    · subst e1;simp[hcl]
    · rw[if_neg (fun e=>e1 e.symm),if_neg e1]
      by_cases e2:k=b
      · subst e2;simp[Nat.lt_trans hbc hcl]
      · rw[if_neg (fun e=>e2 e.symm),if_neg e2,List.getElem?_map]
        show _=mvH b c (σ.h.getD k .dead)
        rw[List.getD_eq_getElem?_getD]
        cases σ.h[k]? <;>rfl
   let m':Nat→Option Value:=fun k=>if k=b then m c else if k=c then none else m k
   have hmb:m' b=m c:=if_pos rfl
   have hmk:∀ k,k≠b→k≠c→m' k=m k:=fun k e1 e2=>by show(if _ then _ else _)=_;rw[if_neg e1,if_neg e2]
   let f:Nat→Nat:=fun k=>if k=b then c else k
   have hlv : ∀ k, (σ'.ho k).own = true → (σ.ho (f k)).own = true ∧ m' k = m (f k) ∧ f k ≠ b ∧ k ≠ c := fun k hk => by
    rw[hho k]at hk
    by_cases e1:k=c
    · rw[if_pos e1]at hk;cases hk
    · rw[if_neg e1]at hk
      by_cases e2:k=b
      · subst e2
        have hfk:f k=c:=if_pos rfl
        rw[hfk]
        exact⟨hcd,hmb,by omega,e1⟩
      · rw[if_neg e2]at hk
        have hfk:f k=k:=if_neg e2
        rw[hfk]
        exact⟨mvH_own hk,hmk k e2 e1,e2,e1⟩
   have hav:∀ g,Av M σ'.ho m' g→Av M σ.ho m g:=by
    rintro g (e|⟨k,v,h1,h2,h3⟩)
    · exact .inl e
    · obtain⟨q1,q2,_⟩:=hlv k h1
      exact .inr ⟨f k,v,q1,q2▸h2,h3⟩
   have g:Mo w (Av M σ.ho m) no w (Av M σ'.ho m') no:=⟨Nat.le_refl _,fun _ _ _=>rfl,fun g e=> .inl (hav g e),fun _ _ e=>e⟩
   have hcase : ∀ k x, σ'.ho k = x → x ≠ .dead → (k = b ∧ σ.ho c = x) ∨ (k ≠ b ∧ k ≠ c ∧ mvH b c (σ.ho k) = x) := fun k x e hx => by
    rw[hho k]at e
    by_cases e1:k=c
    · rw[if_pos e1]at e;exact absurd e.symm hx
    · rw[if_neg e1]at e
      by_cases e2:k=b
      · rw[if_pos e2]at e;exact .inl ⟨e2,e⟩
      · rw[if_neg e2]at e
        exact .inr ⟨e2,e1,e⟩
   refine⟨m',⟨⟨fun k T l e=> ?_,fun k T z l e=> ?_,fun k x e=> ?_,fun k l e=> ?_,fun k k' v v' g' h1 h2 h3 h4 h5 h6=> ?_,H.K.mb,H.K.bs,H.K.gl.mo g⟩,by rw[H.sz];exact(List.length_map ..).symm,H.df.mo g,fun i x hx=> ?_,fun k hk=> ?_,H.bl⟩,fun k hk=>hmk k (by omega) (by omega),hmk,g⟩
   · rcases hcase k _ e (by intro e;cases e)with⟨_,q⟩|⟨q1,q2,q3⟩
     · rw[q]at hr;cases hr
     · cases ho:σ.ho k with
       |bx T1 l1=>
         rw[ho]at q3
         cases q3
         obtain⟨g',cs,h1,h2,h3,h4,h5⟩:=H.K.bx k _ _ ho
         exact⟨g',cs,(hmk k q1 q2).trans h1,h2,h3,by simpa using h4,fun j x hx=>by
          rw[List.getElem?_map,Option.map_eq_some_iff]at hx
          obtain⟨y,hy,rfl⟩:=hx
          exact mvV_ok hmb hmk g (h5 j y hy)⟩
       |_=>rw[ho]at q3;cases q3
   · rcases hcase k _ e (by intro e;cases e)with⟨rfl,q⟩|⟨q1,q2,q3'⟩
     · obtain⟨v,xs,h1,h2,h3,h0,h4⟩:=H.K.rw c T z l q
       exact⟨v,xs,hmb.trans h1,h2,h3,h0,fun j x hx=>(h4 j x hx).mo g⟩
     · have q3:σ.ho k= .rw T z l:=by cases ho:σ.ho k<;>rw[ho]at q3'<;>cases q3'<;>rfl
       obtain⟨v,xs,h1,h2,h3,h0,h4⟩:=H.K.rw k T z l q3
       exact⟨v,xs,(hmk k q1 q2).trans h1,h2,h3,h0,fun j x hx=>(h4 j x hx).mo g⟩
   · rcases hcase k _ e (by intro e;cases e)with⟨rfl,q⟩|⟨q1,q2,q3'⟩
     · rw[q]at hr;cases hr
     · have q3:σ.ho k= .fz x:=by cases ho:σ.ho k<;>rw[ho]at q3'<;>cases q3'<;>rfl
       obtain⟨v,h1,h3⟩:=H.K.fz k x q3
       exact⟨v,(hmk k q1 q2).trans h1,h3.mo g⟩
   · rcases hcase k _ e (by intro e;cases e)with⟨rfl,q⟩|⟨q1,q2,q3'⟩
     · rw[q]at hr;cases hr
     · have q3:σ.ho k= .mp l:=by cases ho:σ.ho k<;>rw[ho]at q3'<;>cases q3'<;>rfl
       obtain⟨g2,h1,h2,h3,h4⟩:=H.K.mp k l q3
       exact⟨g2,(hmk k q1 q2).trans h1,h2,h3,h4.mo g⟩
   · obtain⟨p1,p2,p3,p4⟩:=hlv k h1
     obtain⟨q1,q2,q3,q4⟩:=hlv k' h2
     have hf:=H.K.inj (f k) (f k') v v' g' p1 q1 (p2▸h3) (q2▸h4) h5 h6
     by_cases e1:k=b
     · by_cases e2:k'=b
       · rw[e1,e2]
       · have x1:f k=c:=if_pos e1
         have x2:f k'=k':=if_neg e2
         rw[x1,x2]at hf
         exact absurd hf.symm q4
     · have x1:f k=k:=if_neg e1
       by_cases e2:k'=b
       · have x2:f k'=c:=if_pos e2
         rw[x1,x2]at hf
         exact absurd hf p4
       · have x2:f k'=k':=if_neg e2
         rw[x1,x2]at hf
         exact hf
   · have hx':(σ.t.map (mvV b c))[i]? =some x:=hx
     rw[List.getElem?_map,Option.map_eq_some_iff]at hx'
     obtain⟨y,hy,rfl⟩:=hx'
     have h0:=H.tm i y hy
     exact mvV_ok hmb hmk g h0
   · have:(((σ.h.map (mvH b c)).set b (σ.ho c)).set c .dead).length=σ.h.length:=by simp
     show k<(((σ.h.map (mvH b c)).set b (σ.ho c)).set c .dead).length
     rw[this]
     by_cases e1:k=b
     · omega
     · by_cases e2:k=c
       · omega
       · rw[hmk k e1 e2]at hk
         exact H.nm k hk
 · exact⟨m,H,fun _ _=>rfl,fun _ _ _=>rfl,⟨Nat.le_refl _,fun _ _ _=>rfl,fun _ e=> .inl e,fun _ _ e=>e⟩⟩
end
/-- What may be told otherwise: a nil slice is an empty row; it is a row of the call's own. -/
inductive Gh where
 |wk (b:Nat)
 |ow (t:Nat) (x:HO)
 |oc (b j:Nat) (x:HO)
 |mv (b c:Nat)
 |fz (t:Nat)
def wkV:V→V
 | .nl=> .sl []
 |x=>x
def isNl:V→Bool
 | .nl=>true
 |_=>false
def isNew:HO→Bool
 | .rw _ _ []=>true
 |_=>false
def killL (h:List HO):List Nat→List HO
 |[]=>h
 |b::r=>(killL h r).set b .dead
def gh (σ:St):Gh→St
 | .fz t=>match exp σ.ho 5 (σ.t.getD t .un)with
   |some (y,ks)=>⟨σ.t.set t y,killL σ.h ks⟩
   |none=>σ
 | .wk b=>match σ.ho b with
   | .bx T l=>⟨σ.t,σ.h.set b (.bx T (l.map wkV))⟩
   |_=>σ
 | .ow t x=>match isNl (σ.t.getD t .un)&&isNew x with
   |true=>⟨σ.t.set t (.ow σ.h.length),σ.h++[x]⟩
   |false=>σ
 | .oc b j x=>match σ.ho b with
   | .bx T l=>match isNl (l.getD j .un)&&isNew x with
     |true=>⟨σ.t,σ.h.set b (.bx T (l.set j (.ow σ.h.length)))++[x]⟩
     |false=>σ
   |_=>σ
 | .mv b c=>mv b c σ
section
variable {B:Nat→Prop} {M:Nat→Prop} {w0 w:World} {σ:St} {a:Act} {m:Nat→Option Value}
theorem wkV_ok {A:Nat→Prop} {u:Value} {x:V} (h:Rep w A m u x):Rep w A m u (wkV x):=by
 cases x with
 |nl=>
   cases h
   exact .sl _ none 0 0 0 0 [] (fun _ _=>undef) (Nat.le_refl _) (by decide) (fun h=>by simp at h) (fun _ h=>by simp at h) (fun i j cs x h=>by simp at h) (fun i j cs x h=>by simp at h)
 |_=>exact h
/-- A box of which other things are told. -/
theorem Ok.tell {h:Nat→HO} (K:Ok B M h m w) {b T:Nat} {l l':List V} (hb:h b= .bx T l) (hl:l'.length=l.length) (hr:∀ (u:Value) (j:Nat) (x:V),l'[j]? =some x→(∀ y,l[j]? =some y→Rep w (Av M h m) m u y)→Rep w (Av M h m) m u x):
  Ok B M (upd h b (.bx T l')) m w∧Mo w (Av M h m) m w (Av M (upd h b (.bx T l')) m) m:=by
 have hmo:Mo w (Av M h m) m w (Av M (upd h b (.bx T l')) m) m:=⟨Nat.le_refl _,fun _ _ _=>rfl,fun g e=> .inl (av_turn (by rw[hb];rfl) e),fun _ _ e=>e⟩
 refine⟨⟨fun c U k e=> ?_,fun c U z k e=> ?_,fun c k e=> ?_,fun c k e=> ?_,fun c c' v v' g h1 h2 h3 h4 h5 h6=> ?_,K.mb,K.bs,K.gl.mo hmo⟩,hmo⟩
 · by_cases hc:c=b
   · subst hc
     rw[upd_eq]at e
     injection e with e1 e2
     subst e1;subst e2
     obtain⟨g',cs,h1,h2,h3,h4,h5⟩:=K.bx c T l hb
     exact⟨g',cs,h1,h2,h3,by omega,fun j x hx=>(hr _ j x hx fun y hy=>h5 j y hy).mo hmo⟩
   · rw[upd_ne hc]at e
     obtain⟨g',cs,h1,h2,h3,h4,h5⟩:=K.bx c U k e
     exact⟨g',cs,h1,h2,h3,h4,fun j x hx=>(h5 j x hx).mo hmo⟩
 · by_cases hc:c=b
   · subst hc;rw[upd_eq]at e;cases e
   · rw[upd_ne hc]at e
     obtain⟨v,xs,h1,h2,h3,h0,h4⟩:=K.rw c U z k e
     exact⟨v,xs,h1,h2,h3,h0,fun j x hx=>(h4 j x hx).mo hmo.no⟩
 · by_cases hc:c=b
   · subst hc;rw[upd_eq]at e;cases e
   · rw[upd_ne hc]at e
     obtain⟨v,h1,h2⟩:=K.fz c k e
     exact⟨v,h1,h2.mo hmo.no⟩
 · by_cases hc:c=b
   · subst hc;rw[upd_eq]at e;cases e
   · rw[upd_ne hc]at e
     obtain⟨g',h1,h2,h3,h4⟩:=K.mp c k e
     exact⟨g',h1,h2,h3,h4.mo hmo⟩
 · have hl:∀ {c},(upd h b (.bx T l') c).own=true→(h c).own=true:=fun{c} hc=>by
     by_cases hcb:c=b
     · subst hcb;rw[hb];rfl
     · rwa [upd_ne hcb]at hc
   exact K.inj c c' v v' g (hl h1) (hl h2) h3 h4 h5 h6
/-- A nil slice as a row of the call's own. -/
theorem Ok.nil {h:Nat→HO} (K:Ok B M h m w) {i:Nat} {x:HO} (hx:isNew x=true) (hd:h i= .dead) (hm:m i=none):Ok B M (upd h i x) (upd m i (some (.slice none 0 0))) w∧Mo w (Av M h m) m w (Av M (upd h i x) (upd m i (some (.slice none 0 0)))) (upd m i (some (.slice none 0 0))):=
 ⟨K.new hd hm (fun g e=>by cases e) (Below.refl _ _) (fun T l e=>by subst e;cases hx) (fun T z l e=>by
   subst e
   cases l with
   |nil=>exact⟨[],fun _ h=>by simp at h,⟨by simp,.inl ⟨rfl,rfl⟩⟩,fun _ h=>by simp at h,fun j x h=>by simp at h⟩
   |cons=>cases hx) (fun y e=>by subst e;cases hx) (fun l e=>by subst e;cases hx),.new hd hm (fun g e=>by cases e) (Below.refl _ _)⟩
theorem set_ho {h:List HO} {b:Nat} {x:HO} (hb:b<h.length):(fun c=>(h.set b x).getD c .dead)=upd (fun c=>h.getD c .dead) b x:=funext fun c=>by
 simp only[List.getD_eq_getElem?_getD]
 by_cases hc:c=b
 · subst hc;rw[List.getElem?_set_self hb,upd_eq];rfl
 · rw[List.getElem?_set_ne (fun e=>hc e.symm),upd_ne hc]
theorem app_ho {h:List HO} {x:HO}:(fun c=>(h++[x]).getD c .dead)=upd (fun c=>h.getD c .dead) h.length x:=funext fun c=>by
 simp only[List.getD_eq_getElem?_getD]
 by_cases hc:c=h.length
 · subst hc;rw[upd_eq];simp
 · rw[upd_ne hc]
   rcases Nat.lt_or_ge c h.length with h1|h1
   · rw[List.getElem?_append_left h1]
   · rw[List.getElem?_append_right h1,List.getElem?_eq_none (by simp;omega),List.getElem?_eq_none h1]
theorem SOk.fresh (H:SOk B M w0 σ a m w):σ.ho σ.h.length= .dead∧m σ.h.length=none:=
 ⟨by simp only[St.ho,List.getD_eq_getElem?_getD,List.getElem?_eq_none (Nat.le_refl _)];rfl,by
  cases hm:m σ.h.length with
  |none=>rfl
  |some x=>have:=H.nm _ (by rw[hm];intro e;cases e);omega⟩
theorem killL_ho {h:List HO}:∀ (ks:List Nat) (c:Nat),(killL h ks).length=h.length∧(killL h ks).getD c .dead=upds (fun b=>h.getD b .dead) (kills ks) c
 |[],c=>⟨rfl,rfl⟩
 |b::r,c=>by
  obtain⟨h1,h2⟩:=killL_ho (h:=h) r c
  refine⟨by show((killL h r).set b .dead).length=_;rw[List.length_set,h1], ?_⟩
  show((killL h r).set b .dead).getD c .dead=upd (upds _ (kills r)) b .dead c
  simp only[List.getD_eq_getElem?_getD]at h2⊢
  by_cases hc:c=b
  · subst hc
    rw[upd_eq]
    by_cases hl:c<(killL h r).length
    · rw[List.getElem?_set_self hl];rfl
    · rw[List.getElem?_eq_none (by rw[List.length_set];omega)];rfl
  · rw[upd_ne hc,List.getElem?_set_ne (fun e=>hc e.symm),h2]
theorem fz_ok (H:SOk B M w0 σ a m w) (t:Nat):SOk B M w0 (gh σ (.fz t)) a m w∧Mo w (Av M σ.ho m) m w (Av M (gh σ (.fz t)).ho m) m:=by
 simp only[gh]
 split
 · rename_i y ks hy
   have hlive:∀ b∈ks,(σ.ho b).own=true:=exp_live 5 _ _ _ hy
   have hk:Mo w (Av M σ.ho m) m w (Av M (upds σ.ho (kills ks)) m) m:=Mo.kills ks
   have hr:=exp_rep (h0:=σ.ho) (A':=Av M (upds σ.ho (kills ks)) m) H.K (fun g e=>(hk.av g e).elim id fun h=>absurd ((H.K.kills ks).av_lt e) (by omega)) 5 _ _ _ hy (fun b hb=>⟨rfl,fun v g h1 h2=>kills_out H.K hb (hlive b hb) h1 h2⟩) _ (H.slot t)
   have he:(⟨σ.t.set t y,killL σ.h ks⟩:St).ho=upds σ.ho (kills ks):=funext fun c=>(killL_ho ks c).2
   refine⟨⟨by rw[he];exact H.K.kills ks,by rw[H.sz];simp,by rw[he];exact H.df.mo hk,fun i x hx=> ?_,fun c hc=>by have:=H.nm c hc;show c<(killL σ.h ks).length;rw[(killL_ho ks 0).1];exact this,H.bl⟩,by rw[he];exact hk⟩
   rw[he]
   have hx:(σ.t.set t y)[i]? =some x:=hx
   by_cases hi:i=t
   · subst hi
     have hlt:=(List.getElem?_eq_some_iff.1 hx).1
     rw[List.length_set]at hlt
     rw[List.getElem?_set_self hlt]at hx
     injection hx with hx
     subst hx
     exact hr.mo Mo.up
   · rw[List.getElem?_set_ne (fun e=>hi e.symm)]at hx
     exact(H.tm i x hx).mo hk
 · exact⟨H,Mo.refl⟩
/-- A hint leaves the names below a number. -/
def ghK (n:Nat):Gh→Bool
 | .mv b _=>Nat.ble n b
 |_=>true
theorem gh_ok (H : SOk B M w0 σ a m w) (g : Gh) {n0 : Nat} (hg : ghK n0 g = true) : ∃ m', SOk B M w0 (gh σ g) a m' w ∧ ∀ j, j < n0 → m j ≠ none → m' j = m j := by
 have fr:∀ {u:Value} (j:Nat),m j≠none→upd m σ.h.length (some u) j=m j:=fun{u} j hj=>upd_ne fun e=>by have:=H.nm j hj;omega
 cases g with
 |fz t=>exact⟨m,(fz_ok H t).1,fun _ _ _=>rfl⟩
 |mv b c=>
   obtain⟨m',h1,h2,_⟩:=mv_ok H b c
   exact⟨m',h1,fun j hj _=>h2 j (Nat.lt_of_lt_of_le hj (Nat.le_of_ble_eq_true hg))⟩
 | wk b =>
   simp only[gh]
   split
   · rename_i T l hb
     have hlt:=ho_lt (σ:=σ) (b:=b) (by rw[hb];intro e;cases e)
     obtain⟨k1,k2⟩:=H.K.tell (l':=l.map wkV) hb (by simp) (fun u j x hx hy=>by
      simp only[List.getElem?_map,Option.map_eq_some_iff]at hx
      obtain⟨y,h1,rfl⟩:=hx
      exact wkV_ok (hy y h1))
     have he:(⟨σ.t,σ.h.set b (.bx T (l.map wkV))⟩:St).ho=upd σ.ho b (.bx T (l.map wkV)):=set_ho hlt
     exact⟨m,⟨by rw[he];exact k1,H.sz,by rw[he];exact H.df.mo k2,fun i x hx=>by rw[he];exact(H.tm i x hx).mo k2,fun c hc=>by simpa using H.nm c hc,H.bl⟩,fun _ _ _=>rfl⟩
   · exact⟨m,H,fun _ _ _=>rfl⟩
 | ow t x =>
   simp only[gh]
   split
   · rename_i hc
     rw[Bool.and_eq_true]at hc
     obtain⟨f1,f2⟩:=H.fresh
     obtain⟨k1,k2⟩:=H.K.nil hc.2 f1 f2
     have he:(⟨σ.t.set t (.ow σ.h.length),σ.h++[x]⟩:St).ho=upd σ.ho σ.h.length x:=app_ho
     refine⟨_,⟨by rw[he];exact k1,by rw[H.sz];simp,by rw[he];exact H.df.mo k2,fun i y hy=> ?_,fun c hcn=> ?_,H.bl⟩,fun j _ hj=>fr j hj⟩
     · rw [he]
       have hy:(σ.t.set t (.ow σ.h.length))[i]? =some y:=hy
       by_cases hi:i=t
       · subst hi
         have hlt:=(List.getElem?_eq_some_iff.1 hy).1
         rw[List.length_set]at hlt
         rw[List.getElem?_set_self hlt]at hy
         injection hy with hy
         subst hy
         have h3:=H.slot i
         generalize σ.t.getD i .un=v at h3 hc
         cases v<;>simp[isNl]at hc
         generalize hu:a.eval (.tmp i)=u at h3
         cases h3 with
         |nl=>
           have hu:a.tmps.getD i undef= .slice none 0 0:=hu
           rw[hu]
           exact .ow _ _ _ _ _ upd_eq
       · rw[List.getElem?_set_ne (fun e=>hi e.symm)]at hy
         exact(H.tm i y hy).mo k2
     · by_cases hcl:c=σ.h.length
       · subst hcl;simp
       · rw[upd_ne hcl]at hcn
         have:=H.nm c hcn
         simp;omega
   · exact⟨m,H,fun _ _ _=>rfl⟩
 | oc b j x =>
   simp only[gh]
   split
   · rename_i T l hb
     split
     · rename_i hc
       rw[Bool.and_eq_true]at hc
       have hlt:=ho_lt (σ:=σ) (b:=b) (by rw[hb];intro e;cases e)
       obtain⟨f1,f2⟩:=H.fresh
       obtain⟨k1,k2⟩:=H.K.nil hc.2 f1 f2
       have hne:b≠σ.h.length:=by omega
       obtain⟨k3,k4⟩:=k1.tell (b:=b) (T:=T) (l:=l) (l':=l.set j (.ow σ.h.length)) (by rw[upd_ne hne];exact hb) (by simp) (fun u i y hy hr=>by
        by_cases hi:i=j
        · subst hi
          have hl:=(List.getElem?_eq_some_iff.1 hy).1
          rw[List.length_set]at hl
          rw[List.getElem?_set_self hl]at hy
          injection hy with hy
          subst hy
          have h3:=hr l[i] (List.getElem?_eq_getElem hl)
          have h4:l.getD i .un=l[i]:=by rw[List.getD_eq_getElem?_getD,List.getElem?_eq_getElem hl];rfl
          rw[h4]at hc
          generalize l[i]=v at h3 hc
          cases v<;>simp[isNl]at hc
          cases h3 with
          |nl=>exact .ow _ _ _ _ _ upd_eq
        · rw[List.getElem?_set_ne (fun e=>hi e.symm)]at hy
          exact hr y hy)
       have he:(⟨σ.t,σ.h.set b (.bx T (l.set j (.ow σ.h.length)))++[x]⟩:St).ho=upd (upd σ.ho σ.h.length x) b (.bx T (l.set j (.ow σ.h.length))):=by
        show(fun c=>(σ.h.set b (.bx T (l.set j (.ow σ.h.length)))++[x]).getD c .dead)=_
        rw[app_ho,set_ho hlt,List.length_set]
        funext c
        by_cases h1:c=σ.h.length
        · subst h1;rw[upd_eq,upd_ne (fun e=>hne e.symm),upd_eq]
        · rw[upd_ne h1]
          by_cases h2:c=b
          · subst h2;rw[upd_eq,upd_eq]
          · rw[upd_ne h2,upd_ne h2,upd_ne h1];rfl
       refine⟨_,⟨by rw[he];exact k3,H.sz,by rw[he];exact(H.df.mo k2).mo k4,fun i y hy=> ?_,fun c hcn=> ?_,H.bl⟩,fun j _ hj=>fr j hj⟩
       · rw[he]
         exact((H.tm i y hy).mo k2).mo k4
       · by_cases hcl:c=σ.h.length
         · subst hcl;simp
         · rw[upd_ne hcl]at hcn
           have:=H.nm c hcn
           simp;omega
     · exact⟨m,H,fun _ _ _=>rfl⟩
   · exact⟨m,H,fun _ _ _=>rfl⟩
theorem ghs_ok {n0:Nat}:∀ (gs:List Gh) {σ:St} {m:Nat→Option Value},gs.all (ghK n0)=true→SOk B M w0 σ a m w→∃ m',SOk B M w0 (gs.foldl gh σ) a m' w∧∀ j,j<n0→m j≠none→m' j=m j
 |[],_,m,_,H=>⟨m,H,fun _ _ _=>rfl⟩
 |g::r,_,_,hg,H=>by
  rw[List.all_cons,Bool.and_eq_true]at hg
  obtain⟨m',H',h1⟩:=gh_ok H g hg.1
  obtain⟨m2,H2,h2⟩:=ghs_ok r hg.2 H'
  exact⟨m2,H2,fun j hj hm=>by rw[h2 j hj (by rw[h1 j hj hm];exact hm),h1 j hj hm]⟩
theorem io_eq {m m' m0:Nat→Option Value} {n:Nat} (h:∀ j,j<n→m j=m0 j∧m0 j≠none) (g:∀ j,j<n→m j≠none→m' j=m j):∀ j,j<n→m' j=m0 j∧m0 j≠none:=fun j hj=>by
 obtain⟨h1,h2⟩:=h j hj
 exact⟨(g j hj (by rw[h1];exact h2)).trans h1,h2⟩
end
def trim (n:Nat) (σ:St):St:=match σ.t.all (refs fun b=>Nat.blt b n)&&((σ.h.take n).all (refH fun b=>Nat.blt b n)&&(σ.h.drop n).all isDead)with
 |true=>⟨σ.t,σ.h.take n⟩
 |false=>σ
section
variable {B:Nat→Prop} {M:Nat→Prop} {w0 w:World} {σ:St} {a:Act} {m m':Nat→Option Value} {A A':Nat→Prop}
theorem trim_ok (H : SOk B M w0 σ a m w) (n : Nat) : ∃ m', (∀ b, b < n → m' b = m b) ∧ Mo w (Av M σ.ho m) no w (Av M (trim n σ).ho m') no ∧ SOk B M w0 (trim n σ) a m' w := by
 unfold trim
 split
 · rename_i hc
   simp only[Bool.and_eq_true,List.all_eq_true]at hc
   obtain⟨c1,c2,c3⟩:=hc
   have hho : ∀ b, (⟨σ.t, σ.h.take n⟩ : St).ho b = σ.ho b := fun b => by
    show(σ.h.take n).getD b .dead=σ.h.getD b .dead
    simp only[List.getD_eq_getElem?_getD,List.getElem?_take]
    split
    · rfl
    · rename_i hb
      cases hx:σ.h[b]? with
      |none=>rfl
      |some x=>
        have hd:(σ.h.drop n)[b - n]? =some x:=by rw[List.getElem?_drop,show n+(b - n)=b by omega];exact hx
        have:=c3 x (List.mem_of_getElem? hd)
        cases x<;>simp[isDead]at this
        rfl
   have hlive:∀ b,σ.ho b≠ .dead→b<n:=fun b hb=>by
    rw[←hho b]at hb
    have:=ho_lt (σ:=⟨σ.t,σ.h.take n⟩) hb
    simp at this
    omega
   let m':Nat→Option Value:=fun b=>if b<n then m b else none
   have hm:∀ b,b<n→m' b=m b:=fun b hb=>if_pos hb
   have hav:∀ g,Av M (⟨σ.t,σ.h.take n⟩:St).ho m' g→Av M σ.ho m g:=by
    rintro g (e|⟨b,v,h1,h2,h3⟩)
    · exact .inl e
    · rw[hho b]at h1
      rw[hm b (hlive b (own_ne h1))]at h2
      exact .inr ⟨b,v,h1,h2,h3⟩
   have g:Mo w (Av M σ.ho m) no w (Av M (⟨σ.t,σ.h.take n⟩:St).ho m') no:=⟨Nat.le_refl _,fun _ _ _=>rfl,fun g e=> .inl (hav g e),fun _ _ e=>e⟩
   refine⟨m',hm,g,⟨⟨fun b T l e=> ?_,fun b T z l e=> ?_,fun b x e=> ?_,fun b l e=> ?_,fun c c' v v' g' h1 h2 h3 h4 h5 h6=> ?_,H.K.mb,H.K.bs,H.K.gl.mo g⟩,H.sz,H.df.mo g,fun i x hx=> ?_,fun b hb=> ?_,H.bl⟩⟩
   · rw[hho b]at e
     have hbn:=hlive b (by rw[e];intro e;cases e)
     obtain⟨g',cs,h1,h2,h3,h4,h5⟩:=H.K.bx b T l e
     refine⟨g',cs,(hm b hbn).trans h1,h2,h3,h4,fun j x hx=>ref1_ok (p:=fun b=>Nat.blt b n) (fun b hb=>hm b (by simpa using hb)) g (h5 j x hx) ?_⟩
     have k0:(σ.h.take n)[b]? =some (.bx T l):=by
      rw[List.getElem?_take,if_pos hbn]
      have hbl:=ho_lt (σ:=σ) (b:=b) (by rw[e];intro e;cases e)
      have:σ.h.getD b .dead= .bx T l:=e
      rw[List.getD_eq_getElem?_getD,List.getElem?_eq_getElem hbl]at this
      rw[List.getElem?_eq_getElem hbl]
      exact congrArg some this
     have:=c2 _ (List.mem_of_getElem? k0)
     simp only[refH,List.all_eq_true]at this
     exact this x (List.mem_of_getElem? hx)
   · rw[hho b]at e
     have hbn:=hlive b (by rw[e];intro e;cases e)
     obtain⟨v,xs,h1,h2,h3,h0,h4⟩:=H.K.rw b T z l e
     exact⟨v,xs,(hm b hbn).trans h1,h2,h3,h0,fun j x hx=>(h4 j x hx).mo g⟩
   · rw[hho b]at e
     have hbn:=hlive b (by rw[e];intro e;cases e)
     obtain⟨v,h1,h3⟩:=H.K.fz b x e
     exact⟨v,(hm b hbn).trans h1,h3.mo g⟩
   · rw[hho b]at e
     have hbn:=hlive b (by rw[e];intro e;cases e)
     obtain⟨g2,h1,h2,h3,h4⟩:=H.K.mp b l e
     exact⟨g2,(hm b hbn).trans h1,h2,h3,h4.mo g⟩
   · rw[hho]at h1 h2
     rw[hm _ (hlive _ (own_ne h1))]at h3
     rw[hm _ (hlive _ (own_ne h2))]at h4
     exact H.K.inj c c' v v' g' h1 h2 h3 h4 h5 h6
   · exact refs_ok (p:=fun b=>Nat.blt b n) (fun b hb=>hm b (by simpa using hb)) g (H.tm i x hx) (c1 x (List.mem_of_getElem? hx))
   · have hbn:b<n:=by
      rcases Nat.lt_or_ge b n with h|h
      · exact h
      · exact absurd (if_neg (by omega)) hb
     have hmb:m b≠none:=by rw[←hm b hbn];exact hb
     have:=H.nm b hmb
     simp;omega
 · exact⟨m,fun _ _=>rfl,⟨Nat.le_refl _,fun _ _ _=>rfl,fun g e=> .inl e,fun _ _ e=>e⟩,H⟩
end
/-- To a loop. -/
noncomputable def metL (k:Nat) (gs:List Gh) (ts bs:List Nat) (n:Nat):Out P→Bool×List (List V)×List Item×St
 | .at_ td σ [] ks=>(gs.all (ghK k)&&Nat.ble k n,ks.map (·.1),td,trim n (keep ts bs (gs.foldl gh σ)))
 |_=>(false,[],[],⟨[],[]⟩)
def toldL (td:List Item) (σ:St):Out P→Bool×List (List V)×List Item×St
 | .at_ _ _ _ ks=>(true,ks.map (·.2),td,σ)
 |_=>(true,[],td,σ)
theorem Gd.to (hm:P.follows .mixedOrders=true) {td td':List Item} {σ σ':St} (gs:List Gh) (ts bs:List Nat) (n:Nat) (sc:List (Fa P)) (h:Gd P f d td' σ') (e:metL d.n gs ts bs n (run P 5000 td σ sc)=toldL td' σ' (run P 5000 td σ sc)):Gd P f d td σ:=by
 cases hr:run P 5000 td σ sc with
 |bad=>rw[hr]at e;cases e
 |at_ td2 σ2 sc2 ks=>
   rw[hr]at e
   cases sc2 with
   |nil=>
     simp only[metL,toldL,Prod.mk.injEq,Bool.and_eq_true]at e
     obtain⟨⟨e0,e2⟩,e1,rfl,rfl⟩:=e
     refine run_ok hm _ _ _ _ _ _ _ _ hr (ks_ok e1) fun w0 B M m0 b a m w cs h1 h2 hrs h3 H=> ?_
     obtain⟨m',H',g1⟩:=ghs_ok gs e0 H
     obtain⟨m2,g2,_,H2⟩:=trim_ok (H'.keep ts bs) n
     exact h w0 B M m0 b a m2 w cs h1 h2 hrs (io_eq (io_eq h3 g1) fun j hj _=>g2 j (Nat.lt_of_lt_of_le hj (Nat.le_of_ble_eq_true e2))) H2
   |cons=>cases e
/-- To the end, and what is known is told otherwise ahead of it. -/
noncomputable def metG (fn:Func) (d:RD) (gs:List Gh):Out P→Bool×List (List V)×Bool×Option RD
 | .at_ td σ [] ks=>(gs.all (ghK d.n),ks.map (·.1),isEnd td,outV P fn (gs.foldl gh σ) d)
 |_=>(false,[],false,none)
def toldG (d:RD):Out P→Bool×List (List V)×Bool×Option RD
 | .at_ _ _ _ ks=>(true,ks.map (·.2),true,some d)
 |_=>(true,[],true,some d)
theorem Gd.endG (hm:P.follows .mixedOrders=true) (hf:P.funcs[f]? =some fn) {td:List Item} {σ:St} (gs:List Gh) (sc:List (Fa P)) (e:metG fn d gs (run P 5000 td σ sc)=toldG d (run P 5000 td σ sc)):Gd P f d td σ:=by
 cases hr:run P 5000 td σ sc with
 |bad=>rw[hr]at e;cases e
 |at_ td2 σ2 sc2 ks=>
   rw[hr]at e
   cases sc2 with
   |nil=>
     simp only[metG,toldG,Prod.mk.injEq]at e
     obtain⟨e0,e1,e2,e3⟩:=e
     refine run_ok hm _ _ _ _ _ _ _ _ hr (ks_ok e1) fun w0 B M m0 b a m w cs h1 h2 hrs h3 H=> ?_
     obtain⟨m',H',g1⟩:=ghs_ok gs e0 H
     exact Gd.fin hf e2 e3 w0 B M m0 b a m' w cs h1 h2 hrs (io_eq h3 g1) H'
   |cons=>cases e
theorem Gd.loop {α:Type} (X:α→St) (J:α→Prop) (μ:α→Nat) {td:List Item} (h:∀ x,J x→(∀ y,J y→μ y<μ x→Gd P f d td (X y))→Gd P f d td (X x)) (x:α) (hx:J x):Gd P f d td (X x):=by
 have key:∀ n x,μ x=n→J x→Gd P f d td (X x):=by
  intro n
  induction n using Nat.strongRecOn with
  |_ n ih=>exact fun x hn hj=>h x hj fun y hy hlt=>ih (μ y) (hn▸hlt) y rfl hy
 exact key _ x rfl hx
/-- The loops of a function, in the text's order. -/
def loops:Code→List Item→List (List Item)
 | .seq a b,k=>loops a (.code b::k)++loops b k
 | .cond _ a b,k=>loops a k++loops b k
 | .block id c,k=>loops c (.inBlock id::k)
 | .scope c,k=>loops c (.inScope c::k)
 | .loop c,k=>(.code c:: .inLoop c::k)::loops c (.inLoop c::k)
 |_,_=>[]
def lp (fn:Func) (n:Nat):List Item:=match fn.body with
 |some c=>(loops c []).getD n []
 |none=>[]
/-- The way from a region on, by its number. -/
def rgs (i:Nat):Code→List Item→Option (List Item)
 | .seq a b,k=>match rgs i a (.code b::k)with
   |some l=>some l
   |none=>rgs i b k
 | .cond _ a b,k=>match rgs i a k with
   |some l=>some l
   |none=>rgs i b k
 | .block id c,k=>rgs i c (.inBlock id::k)
 | .scope c,k=>rgs i c (.inScope c::k)
 | .loop c,k=>rgs i c (.inLoop c::k)
 | .region j ops dr,k=>match Nat.beq i j with
   |true=>some (.code (.region j ops dr)::k)
   |false=>none
 |_,_=>none
def rg (fn:Func) (i:Nat):List Item:=match fn.body with
 |some c=>(rgs i c []).getD []
 |none=>[]
/-- A state in which some slots are known. -/
def slots:Nat→Nat→List (Nat×V)→List V
 |0,_,_=>[]
 |n+1,i,[]=> .un::slots n (i+1) []
 |n+1,i,(j,x)::r=>match Nat.beq i j with
   |true=>x::slots n (i+1) r
   |false=> .un::slots n (i+1) ((j,x)::r)
def at_ (fn:Func) (l:List (Nat×V)) (h:List HO):St:=⟨slots fn.ntmps 0 l,h⟩
end
end Go.Proofs.YtfdfbenejkmnlaaGreatDoor.E
