/-
 THE FLOW THEOREMS inside a round of a range over a function.
-/
import Derived.Test.YtfdfbenejkmnlaaGreatDoorFlow
import Derived.RangeFuncCalls
import Derived.OrdersIn
import Derived.TacticsIn
import Derived.OwnWalkIn
namespace Go.Proofs.YtfdfbenejkmnlaaGreatDoor
open Go.RowKit
set_option linter.unusedVariables false
/-- The wide fence, or a round within it. -/
def WideF (F:Fence):Prop:=F=Fence.wide∨∃ l,F=Fence.wide.inRound l
theorem WideF.wide:WideF Fence.wide:= .inl rfl
theorem WideF.fn {F:Fence} (h:WideF F) (f:FuncId):F.fn f:=by
 rcases h with rfl|⟨l,rfl⟩<;>trivial
theorem WideF.depth {F:Fence} (h:WideF F):F.depth.isSome=false:=by
 rcases h with rfl|⟨l,rfl⟩<;>rfl
theorem WideF.calls {F:Fence} (h:WideF F) {n:Nat} {P:Program} {f:FuncId} {args:Array Value} {w:World} {R:Ending→World→Prop} (hc:Calls P f args w R):CallsIn F n P f args w R:=by
 rcases h with rfl|⟨l,rfl⟩
 ·exact callsIn_wide.2 hc
 ·exact CallsIn.inRound l (callsIn_wide.2 hc)
/-- No operation is a 'defer' statement. -/
def nodef (ops:Array Oper):Bool:=ops.toList.all fun o=>match o.op with
 | .defer _=>false
 |_=>true
theorem nodef_at {ops:Array Oper} (h:nodef ops=true) {i:Nat} {o:Oper} (ho:ops[i]? =some o):∀ c,o.op≠ .defer c:=fun c e=>by
 unfold nodef at h
 rw[List.all_eq_true]at h
 have h1:=h o (List.mem_of_getElem? (by simpa using ho))
 rw[e]at h1
 cases h1
theorem wpOpI_valG {Fx:Fence} {nf:Nat} {P:Program} {ops:Array Oper} {Q:Exit→Act→World→Prop} {i:Nat} {K:Act→World→Prop} {a:Act} {w w':World} {o:Oper} {v:Value} (hFx:WideF Fx) (hnd:nodef ops=true) (ho:ops[i]? =some o) (hg:Region.wanted o (yielded ops a.tmps)=true)
  (hr:(execOp a.eval o).run P w= .ok (.value v) w') (hK:K (a.put o.dst v) w'):wpOpIn Fx nf P ops Q i K a w:=by
 unfold wpOpIn
 rw[ho]
 simp only[hg,if_true]
 unfold Oper.wpIn
 refine⟨fun f _=>hFx.fn f, ?_⟩
 rw[Oper.semAt_plain _ _ _ (nodef_at hnd ho),hr]
 exact hK
theorem wpOpI_callG {Fx:Fence} {nf:Nat} {P:Program} {ops:Array Oper} {Q:Exit→Act→World→Prop} {i:Nat} {K:Act→World→Prop} {a:Act} {w:World} {o:Oper} {f:FuncId} {args:Array Value} (hFx:WideF Fx) (hnd:nodef ops=true) (ho:ops[i]? =some o) (hg:Region.wanted o (yielded ops a.tmps)=true)
  (hr:(execOp a.eval o).run P w= .ok (.enter f args) w) (hc:Calls P f args w fun e w'=>∃ v,e= .returned v∧K (a.put o.dst v) w'):wpOpIn Fx nf P ops Q i K a w:=by
 unfold wpOpIn
 rw[ho]
 simp only[hg,if_true]
 unfold Oper.wpIn
 refine⟨fun f _=>hFx.fn f, ?_⟩
 rw[Oper.semAt_plain _ _ _ (nodef_at hnd ho),hr]
 refine⟨fun h=>(by rw[hFx.depth]at h;cases h),hFx.calls (Calls.mono hc fun e w' h=> ?_)⟩
 obtain⟨v,rfl,hK⟩:=h
 exact hK
theorem wpOpI_skipG {Fx:Fence} {nf:Nat} {P:Program} {ops:Array Oper} {Q:Exit→Act→World→Prop} {i:Nat} {K:Act→World→Prop} {a:Act} {w:World} {o:Oper} (hFx:WideF Fx) (ho:ops[i]? =some o) (hg:Region.wanted o (yielded ops a.tmps)=false) (hK:K (a.put o.dst undef) w):wpOpIn Fx nf P ops Q i K a w:=by
 unfold wpOpIn
 rw[ho]
 simp only[hg,Bool.false_eq_true,if_false]
 exact⟨fun f _=>hFx.fn f,hK⟩
theorem wpAny_invI {Fx:Fence} {nf:Nat} {P:Program} {md:Region.Mode} {ops:Array Oper} {Q:Exit→Act→World→Prop} (J:Array Bool→Act→World→Prop)
  (hback:∀ (i:Nat) (o:Oper),ops[i]? =some o→∀ e∈o.after,Region.binds md e=true→e.on<i)
  (hstep:∀ listed a w,listed.size=ops.size→J listed a w→∀ i,i<ops.size→listed.getD i true=false→(∀ o:Oper,ops[i]? =some o→∀ e∈o.after,Region.binds md e=true→listed.getD e.on false=true)→wpOpIn Fx nf P ops Q i (J (listed.setIfInBounds i true)) a w)
  (hend:∀ listed a w,listed.size=ops.size→(∀ i,i<ops.size→listed.getD i true=true)→J listed a w→Q .normal a w):
  ∀ fuel listed a w,listed.size=ops.size→toCome listed≤fuel→J listed a w→wpAnyIn Fx nf P md ops Q fuel listed a w:=by
 intro fuel
 induction fuel with
 |zero=>
  intro listed a w hs hc hJ
  have hall:∀ i,i<ops.size→listed.getD i true=true:=fun i hi=>by
   cases hl:listed.getD i true with
   |true=>rfl
   |false=>
    have h1:listed[i]? =some false:=by
     rw[Array.getD_eq_getD_getElem?,Array.getElem?_eq_getElem (by omega)]at hl
     rw[Array.getElem?_eq_getElem (by omega)]
     simpa using hl
    have:=toCome_set h1
    omega
  refine⟨?_,hend listed a w hs hall hJ⟩
  cases hr:Region.ready md ops listed with
  |nil=>rfl
  |cons i r=>
   have h1:=ready_of (show i∈Region.ready md ops listed by rw[hr];exact List.mem_cons_self ..)
   rw[hall i h1.1]at h1
   cases h1.2.1
 |succ fuel ih=>
  intro listed a w hs hc hJ
  refine⟨fun hr=>hend listed a w hs (ready_nil hs hback hr) hJ,fun i hi=> ?_⟩
  obtain⟨h1,h2,h3⟩:=ready_of hi
  refine wpOpIn_mono (fun a' w' h=>ih _ a' w' (by simpa using hs) ?_ h) (hstep listed a w hs hJ i h1 h2 h3)
  have h4:listed[i]? =some false:=by
   rw[Array.getD_eq_getD_getElem?,Array.getElem?_eq_getElem (by omega)]at h2
   rw[Array.getElem?_eq_getElem (by omega)]
   simpa using h2
  have:=toCome_set h4
  omega
theorem wp_region_invI {Fx:Fence} {nf:Nat} {P:Program} {id:Nat} {ops:Array Oper} {Q:Exit→Act→World→Prop} {a:Act} {w:World} (J:Array Bool→Act→World→Prop) (hm:P.follows .mixedOrders=true)
  (hback:∀ (i:Nat) (o:Oper),ops[i]? =some o→∀ e∈o.after,Region.binds .any e=true→e.on<i)
  (h0:J (Array.replicate ops.size false) a w.drew)
  (hstep:∀ listed a w,listed.size=ops.size→J listed a w→∀ i,i<ops.size→listed.getD i true=false→(∀ o:Oper,ops[i]? =some o→∀ e∈o.after,Region.binds .any e=true→listed.getD e.on false=true)→wpOpIn Fx nf P ops Q i (J (listed.setIfInBounds i true)) a w)
  (hend:∀ listed a w,listed.size=ops.size→(∀ i,i<ops.size→listed.getD i true=true)→J listed a w→Q .normal a w):
  (Code.region id ops true).wpIn Fx nf P Q a w:=by
 refine wpIn_region_any hm (wpAny_invI J hback hstep hend _ _ _ _ (by simp) ?_ h0)
 unfold toCome
 exact Nat.le_trans (List.length_filter_le _ _) (by simp)
theorem wp_region_headI {Fx:Fence} {nf:Nat} {P:Program} {id:Nat} {ops:Array Oper} {Q:Exit→Act→World→Prop} {a:Act} {w:World} (n:Nat) (V:Array Bool→Act→World→Prop) (hm:P.follows .mixedOrders=true)
  (hback:∀ (i:Nat) (o:Oper),ops[i]? =some o→∀ e∈o.after,Region.binds .any e=true→e.on<i) (hn:n≤ops.size) (hfull:fullB ops n=true)
  (h0:V (Array.replicate ops.size false) a w.drew)
  (hstep:∀ L a w,L.size=ops.size→V L a w→∀ i,i<n→L.getD i false=false→(∀ j∈predsOf ops i,L.getD j false=true)→wpOpIn Fx nf P ops Q i (V (L.setIfInBounds i true)) a w)
  (hend:∀ L a w,L.size=ops.size→(∀ i,i<n→L.getD i false=true)→V L a w→wpListIn Fx nf P ops Q (ops.toList.drop n) a w):
  (Code.region id ops true).wpIn Fx nf P Q a w:=by
 have hdrop:∀ t,(h:n+t<ops.size)→wpListIn Fx nf P ops Q (ops.toList.drop (n+t))=wpOpIn Fx nf P ops Q (n+t) (wpListIn Fx nf P ops Q (ops.toList.drop (n+(t+1)))):=by
  intro t ht
  have h1:ops.toList.drop (n+t)=ops[n+t]::ops.toList.drop (n+(t+1)):=by
   rw[List.drop_eq_getElem_cons (by simpa using ht)]
   rfl
  funext a w
  rw[h1]
  unfold wpOpIn
  rw[Array.getElem?_eq_getElem ht]
  rfl
 refine wp_region_invI (fun L a w=>Closed ops L∧(((∀ i,n≤i→L.getD i false=false)∧V L a w)∨∃ t,0<t∧n+t≤ops.size∧(∀ i,i<n+t→L.getD i false=true)∧(∀ i,n+t≤i→L.getD i false=false)∧wpListIn Fx nf P ops Q (ops.toList.drop (n+t)) a w)) hm hback ?_ ?_ ?_
 ·refine⟨fun i hi=> ?_,.inl ⟨fun i _=> ?_,h0⟩⟩
  ·rw[Array.getD_eq_getD_getElem?,Array.getElem?_replicate]at hi
   split at hi<;>simp at hi
  ·rw[Array.getD_eq_getD_getElem?,Array.getElem?_replicate]
   split<;>rfl
 ·intro L a w hs hJ i hi hL hpre
  obtain⟨hc,hJ⟩:=hJ
  have hf:=getD_no hL
  have hp:∀ j∈predsOf ops i,L.getD j false=true:=fun j hj=>by
   obtain⟨o,ho,e,he,hb,rfl⟩:=mem_predsOf.1 hj
   exact hpre o ho e he hb
  have hc':=closed_set hc hp
  have hset:∀ k,L.getD k false=true∨k=i→k<ops.size→(L.setIfInBounds i true).getD k false=true:=fun k hk hk2=>by
   by_cases hki:i=k
   ·subst hki;exact getD_eq (by omega)
   ·rw[getD_ne hki]
    rcases hk with hk|hk
    ·exact hk
    ·exact absurd hk.symm hki
  rcases hJ with⟨hno,hV⟩|⟨t,ht0,htn,hyes,hno,hT⟩
  ·rcases Nat.lt_or_ge i n with hin|hin
   ·refine wpOpIn_mono (fun a' w' h=>⟨hc',.inl ⟨fun k hk=> ?_,h⟩⟩) (hstep L a w hs hV i hin hf hp)
    rw[getD_ne (by omega)];exact hno k hk
   ·have hall:=full_done hfull hc hi hin hp
    have hin2:i=n:=by
     rcases Nat.lt_or_ge n i with h|h
     ·have h1:=hall n h
      rw[hno n (Nat.le_refl _)]at h1
      cases h1
     ·omega
    subst hin2
    have h2:=hend L a w hs (fun k hk=>hall k hk) hV
    have h3:=hdrop 0 (by simpa using hi)
    rw[Nat.add_zero]at h3
    rw[h3]at h2
    refine wpOpIn_mono (fun a' w' h=>⟨hc',.inr ⟨1,by omega,by omega,fun k hk=>hset k ?_ (by omega),fun k hk=> ?_,h⟩⟩) h2
    ·rcases Nat.lt_or_ge k i with h4|h4
     ·exact .inl (hall k h4)
     ·exact .inr (by omega)
    ·rw[getD_ne (by omega)];exact hno k (by omega)
  ·have hin:n+t≤i:=by
    rcases Nat.lt_or_ge i (n+t)with h|h
    ·have:=hyes i h
     rw[hf]at this
     cases this
    ·exact h
   have hall:=full_done hfull hc hi (by omega) hp
   have hin2:i=n+t:=by
    rcases Nat.lt_or_ge (n+t) i with h|h
    ·have h1:=hall (n+t) h
     rw[hno (n+t) (Nat.le_refl _)]at h1
     cases h1
    ·omega
   subst hin2
   rw[hdrop t hi]at hT
   refine wpOpIn_mono (fun a' w' h=>⟨hc',.inr ⟨t+1,by omega,by omega,fun k hk=>hset k ?_ (by omega),fun k hk=> ?_,h⟩⟩) hT
   ·rcases Nat.lt_or_ge k (n+t)with h4|h4
    ·exact .inl (hyes k h4)
    ·exact .inr (by omega)
   ·rw[getD_ne (by omega)];exact hno k (by omega)
 ·intro L a w hs hall hJ
  obtain⟨hc,hJ⟩:=hJ
  have hy:∀ i,i<ops.size→L.getD i false=true:=fun i hi=>getD_yes (by omega) (hall i hi)
  rcases hJ with⟨hno,hV⟩|⟨t,ht0,htn,hyes,hno,hT⟩
  ·have hnn:n=ops.size:=by
    rcases Nat.lt_or_ge n ops.size with h|h
    ·have h1:=hy n h
     rw[hno n (Nat.le_refl _)]at h1
     cases h1
    ·omega
   have h2:=hend L a w hs (fun i hi=>hy i (by omega)) hV
   rw[List.drop_of_length_le (by simp[hnn])]at h2
   exact h2
  ·have hnn:n+t=ops.size:=by
    rcases Nat.lt_or_ge (n+t) ops.size with h|h
    ·have h1:=hy (n+t) h
     rw[hno (n+t) (Nat.le_refl _)]at h1
     cases h1
    ·omega
   rw[List.drop_of_length_le (by simp[hnn])]at hT
   exact hT
end Go.Proofs.YtfdfbenejkmnlaaGreatDoor
