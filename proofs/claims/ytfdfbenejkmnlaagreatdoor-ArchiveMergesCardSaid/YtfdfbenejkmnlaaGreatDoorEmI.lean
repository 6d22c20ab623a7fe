/-
 THE SECOND ENGINE, 12: runs of a function's code, from its beginning to its end.
-/
import Derived.Test.YtfdfbenejkmnlaaGreatDoorEmG
namespace Go.Proofs.YtfdfbenejkmnlaaGreatDoor.E
open Go.RowKit
set_option linter.unusedVariables false
set_option linter.unusedSimpArgs false
/-- What the operations done by now have left: the last of those that write. -/
def acc {α:Type} (X:Nat→α) (W L:Nat→Bool):Nat→α
 |0=>X 0
 |i+1=>if(L i&&W i)=true then X (i+1)else acc X W L i
section
variable {α:Type} {X:Nat→α} {W L L':Nat→Bool}
theorem acc_upto:∀ {k:Nat},(∀ i,i<k→W i=false→X (i+1)=X i)→(∀ i,i<k→W i=true→L i=true)→acc X W L k=X k
 |0,_,_=>rfl
 |k+1,hX,h=>by
  unfold acc
  cases hw:W k with
  |true=>rw[if_pos (by rw[h k (by omega) hw];rfl)]
  |false=>
    rw[if_neg (by simp),acc_upto (fun i hi=>hX i (by omega)) fun i hi=>h i (by omega)]
    exact(hX k (by omega) hw).symm
theorem acc_after {k:Nat}:∀ {n:Nat},k≤n→(∀ i,k≤i→i<n→W i=true→L i=false)→acc X W L n=acc X W L k
 |0,hk,_=>by rw[show k=0 by omega]
 | n + 1, hk, h => by
  rcases Nat.lt_or_ge n k with h1|h1
  · rw[show k=n+1 by omega]
  · rw[←acc_after h1 fun i h2 h3=>h i h2 (by omega)]
    have:(L n&&W n)≠true:=by
     cases hw:W n with
     |true=>rw[h n h1 (by omega) hw];simp
     |false=>simp
    exact if_neg this
theorem acc_congr:∀ {n:Nat},(∀ i,i<n→W i=true→L i=L' i)→acc X W L n=acc X W L' n
 |0,_=>rfl
 |n+1,h=>by
  have ih:=acc_congr (n:=n) fun i hi=>h i (by omega)
  unfold acc
  cases hw:W n with
  |true=>rw[h n (by omega) hw,ih]
  |false=>simp[ih]
end
theorem conf_of {f g:Fp} {b:Nat} (h:(b∈f.ws∧(b∈g.ws∨b∈g.rd))∨(b∈f.rd∧b∈g.ws)):f.conf g=true:=by
 unfold Fp.conf
 rw[Bool.or_eq_true,List.any_eq_true,List.any_eq_true]
 rcases h with⟨h1,h2⟩|⟨h1,h2⟩
 · exact .inl ⟨b,h1,by rcases h2 with h2|h2<;>simp[h2]⟩
 · exact .inr ⟨b,h1,by simp[h2]⟩
theorem confOk_of {ops:Array Oper}:∀ {fps:List Fp} {j:Nat},confOk ops fps j=true→∀ {i i':Nat} {f g:Fp},i<i'→fps[i]? =some f→fps[i']? =some g→f.conf g=true→bef ops (j+i) ops.size (j+i')=true
 |[],_,_,i,_,_,_,_,h1,_,_=>by simp at h1
 |f0::r,j,h,i,i',f,g,hi,h1,h2,hc=>by
  unfold confOk at h
  rw[Bool.and_eq_true,List.all_eq_true]at h
  obtain⟨i',rfl⟩:∃ k,i'=k+1:=⟨i' - 1,by omega⟩
  simp only[List.getElem?_cons_succ]at h2
  cases i with
  |zero=>
    simp only[List.getElem?_cons_zero,Option.some.injEq]at h1
    subst h1
    have:=h.1 (g,i') (by rw[List.mem_zipIdx_iff_getElem?];simpa using h2)
    simp only[hc,Bool.not_true,Bool.false_or]at this
    rw[Nat.add_zero,show j+(i'+1)=j+1+i' by omega]
    exact this
  |succ i=>
    simp only[List.getElem?_cons_succ]at h1
    have:=confOk_of h.2 (by omega) h1 h2 hc
    rw[show j+(i+1)=j+1+i by omega,show j+(i'+1)=j+1+i' by omega]
    exact this
theorem bef_done {ops:Array Oper} {L:Array Bool} (hc:Closed ops L) {j:Nat}:∀ (n k:Nat),bef ops j n k=true→(∀ p∈predsOf ops k,L.getD p false=true)→L.getD j false=true
 |0,_,h,_=>by cases h
 |n+1,k,h,hp=>by
  unfold bef at h
  rw[List.any_eq_true]at h
  obtain⟨p,h1,h2⟩:=h
  rw[Bool.or_eq_true,Bool.and_eq_true]at h2
  rcases h2 with h2|⟨_,h2⟩
  · rw[←Nat.eq_of_beq_eq_true h2];exact hp p h1
  · exact bef_done hc n p h2 (hc p (hp p h1))
section
variable {B:Nat→Prop} {M:Nat→Prop} {P:Program} {ops:Array Oper}
theorem reg_trace : ∀ (l : List Oper) (g : List (Nat × Bool)) (σ σ' : St) (fps : List Fp) (sc sc' : List (Fa P)) (ks : Ks), regR P ops l g σ sc = some (σ', fps, sc', ks) → (∀ p ∈ ks, p.1 = p.2) →
  ∃ (S:Nat→St) (v:Nat→V) (ws:Nat→List (Nat×HO)) (rd:Nat→List Nat),S 0=σ∧S l.length=σ'∧∀ i o,l[i]? =some o→fps[i]? =some ⟨(ws i).map (·.1),rd i⟩∧S (i+1)=⟨(S i).put o.dst (v i),apps (S i).h (ws i)⟩∧StepOk B M P ops o (S i) (v i) (ws i) (rd i)
 |[],g,σ,σ',fps,sc,sc',ks,e,_=>by
  simp only[regR,Option.some.injEq,Prod.mk.injEq]at e
  obtain⟨rfl,rfl,rfl,rfl⟩:=e
  exact⟨fun _=>σ,fun _=> .un,fun _=>[],fun _=>[],rfl,rfl,fun i o h=>by simp at h⟩
 | o :: r, g, σ, σ', fps, sc, sc', ks, e, hk => by
  unfold regR at e
  split at e
  · rename_i g1 σ1 fp sc1 k1 hs
    split at e
    · rename_i σ2 fps2 sc2 k2 hr
      simp only[Option.some.injEq,Prod.mk.injEq]at e
      obtain⟨rfl,rfl,rfl,rfl⟩:=e
      obtain⟨v,ws,h1,h2,h3⟩:=stepR_ok (B:=B) (M:=M) hs fun p hp=>hk p (by simp[hp])
      obtain⟨S,vs,wss,rds,g1,g2,g3⟩:=reg_trace r _ _ _ _ _ _ _ hr fun p hp=>hk p (by simp[hp])
      refine⟨fun|0=>σ|i+1=>S i,fun|0=>v|i+1=>vs i,fun|0=>ws|i+1=>wss i,fun|0=>fp.rd|i+1=>rds i,rfl,g2,fun i o' ho=> ?_⟩
      cases i with
      |zero=>
        simp only[List.getElem?_cons_zero,Option.some.injEq]at ho
        subst ho
        refine⟨?_, ?_,h3⟩
        · cases fp;simp only at h2;subst h2;rfl
        · show S 0=_
          rw[g1];exact h1
      |succ i=>
        simp only[List.getElem?_cons_succ]at ho⊢
        exact g3 i o' ho
    · cases e
  · cases e
theorem depOk_of (h:depOk ops=true) {k:Nat} {o:Oper} (ho:ops[k]? =some o):(∀ (j:Nat) (p:Oper) (d:Nat),ops[j]? =some p→p.dst=some d→d∈looks o→j∈predsOf ops k∨(k<j∧bef ops k ops.size j=true))∧∀ (g:Nat) (c:Bool),o.guard=some (g,c)→g∈predsOf ops k:=by
 unfold depOk at h
 rw[List.all_eq_true]at h
 have h1:=h k (by simpa using(Array.getElem?_eq_some_iff.1 ho).1)
 rw[ho]at h1
 simp only[Bool.and_eq_true,List.all_eq_true]at h1
 refine⟨fun j p d hj hd hm=> ?_,fun g c hg=> ?_⟩
 · have h2:=h1.1 j (by simpa using(Array.getElem?_eq_some_iff.1 hj).1)
   rw[hj]at h2
   simp only[hd,Bool.or_eq_true,Bool.not_eq_true',Bool.and_eq_true]at h2
   rcases h2 with h2|h2|h2
   · rw[show(looks o).contains d=true by simpa using hm]at h2
     cases h2
   · exact .inl (by simpa using h2)
   · exact .inr ⟨by simpa using h2.1,h2.2⟩
 · have h2:=h1.2
   rw[hg]at h2
   simpa using h2
theorem dstOk_of (h : dstOk ops = true) {i j : Nat} {p q : Oper} {d : Nat} (hi : ops[i]? = some p) (hj : ops[j]? = some q) (h1 : p.dst = some d) (h2 : q.dst = some d) : i = j := by
 have hn:(ops.toList.filterMap (·.dst)).Nodup:=of_decide_eq_true h
 have key : ∀ (l : List Oper), (l.filterMap (·.dst)).Nodup → ∀ {i j : Nat} {p q : Oper}, l[i]? = some p → l[j]? = some q → p.dst = some d → q.dst = some d → i = j := by
  intro l
  induction l with
  |nil=>intro _ i j p q h;simp at h
  |cons x r ih=>
    intro hn i j p q hi hj h1 h2
    have hr:(r.filterMap (·.dst)).Nodup:=by
     rw[List.filterMap_cons]at hn
     split at hn
     · exact hn
     · exact(List.nodup_cons.1 hn).2
    have hx:x.dst=some d→∀ {k:Nat} {y:Oper},r[k]? =some y→y.dst=some d→False:=fun hx k y hk hy=>by
     rw[List.filterMap_cons,hx]at hn
     exact(List.nodup_cons.1 hn).1 (List.mem_filterMap.2 ⟨y,List.mem_of_getElem? hk,hy⟩)
    cases i with
    |zero=>
      simp only[List.getElem?_cons_zero,Option.some.injEq]at hi
      subst hi
      cases j with
      |zero=>rfl
      |succ j=>exact(hx h1 (by simpa using hj) h2).elim
    |succ i=>
      cases j with
      |zero=>
        simp only[List.getElem?_cons_zero,Option.some.injEq]at hj
        subst hj
        exact(hx h2 (by simpa using hi) h1).elim
      |succ j=>
        simp only[List.getElem?_cons_succ]at hi hj
        rw[ih hr hi hj h1 h2]
 exact key _ hn (by simpa using hi) (by simpa using hj) h1 h2
variable {w0:World} {a:Act} {m:Nat→Option Value} {w:World}
theorem draw_ok {Fx : Fence} {nf : Nat} (hFx : WideF Fx) (hnd : nodef ops = true) (E : World → (Nat → Prop) → (Nat → Option Value) → Prop) (hE : ∀ w A m w' A' m', E w A m → Mo w A m w' A' m' → E w' A' m') {dfs : List Deferred} {id : Nat} {Q : Exit → Act → World → Prop} {σ σ' : St} {fps : List Fp} {sc sc' : List (Fa P)} {ks : Ks} (hm : P.follows .mixedOrders = true) (e : regR P ops ops.toList [] σ sc = some (σ', fps, sc', ks)) (hk : ∀ p ∈ ks, p.1 = p.2)
  (c1:backB ops=true) (c2:depOk ops=true) (c3:dstOk ops=true) (c4:confOk ops fps 0=true) (H:SOk B M w0 σ a m w) (hE0:E w (Av M σ.ho m) m) (hds0:a.defers=dfs) (hQ:∀ a m w,SOk B M w0 σ' a m w→E w (Av M σ'.ho m) m→a.defers=dfs→Q .normal a w):(Code.region id ops true).wpIn Fx nf P Q a w:=by
 obtain⟨S,v,ws,rd,g1,g2,g3⟩:=reg_trace (B:=B) (M:=M) ops.toList [] σ σ' fps sc sc' ks e hk
 have hnth:∀ i,i<ops.size→∃ o,ops[i]? =some o∧ops.toList[i]? =some o:=fun i hi=>⟨ops[i],Array.getElem?_eq_getElem hi,by simp[hi]⟩
 -- the states' lengths
 have hlen:∀ i,i≤ops.size→(S i).t.length=σ.t.length:=by
  intro i
  induction i with
  |zero=>intro _;rw[g1]
  |succ i ih=>
    intro hi
    obtain⟨o,_,ho⟩:=hnth i (by omega)
    rw[(g3 i o ho).2.1]
    exact stput_len.trans (ih (by omega))
 have hhl : ∀ i j, i ≤ j → j ≤ ops.size → (S i).h.length ≤ (S j).h.length := by
  intro i j hij
  induction j with
  |zero=>intro _;rw[show i=0 by omega];exact Nat.le_refl _
  |succ j ih=>
    intro hj
    rcases Nat.lt_or_ge j i with h1|h1
    · rw[show i=j+1 by omega];exact Nat.le_refl _
    · obtain⟨o,_,ho⟩:=hnth j (by omega)
      rw[(g3 j o ho).2.1]
      exact Nat.le_trans (ih h1 (by omega)) (apps_len _).1
 have hin:∀ i,i<ops.size→∀ b∈(ws i).map (·.1),b<(S (i+1)).h.length:=by
  intro i hi b hb
  obtain⟨o,_,ho⟩:=hnth i hi
  rw[(g3 i o ho).2.1]
  exact(apps_len _).2 b hb
 let Wb:Nat→Nat→Bool:=fun b i=>decide (b∈(ws i).map (·.1))
 let Wt:Nat→Nat→Bool:=fun t i=>decide ((ops[i]?).bind (·.dst)=some t)
 have hXb:∀ b i,i<ops.size→Wb b i=false→(S (i+1)).ho b=(S i).ho b:=by
  intro b i hi hw
  obtain⟨o,_,ho⟩:=hnth i hi
  rw[(g3 i o ho).2.1]
  show(apps (S i).h (ws i)).getD b .dead=_
  rw[apps_ho]
  exact upds_out (of_decide_eq_false hw)
 have hXt:∀ t i,i<ops.size→Wt t i=false→(S (i+1)).t.getD t .un=(S i).t.getD t .un:=by
  intro t i hi hw
  obtain⟨o,ho',ho⟩:=hnth i hi
  rw[(g3 i o ho).2.1]
  show((S i).put o.dst (v i)).getD t .un=_
  rw[stput_get,if_neg]
  intro hd
  have:=of_decide_eq_false hw
  rw[ho']at this
  exact this hd.1
 let hl:Array Bool→Nat→HO:=fun L b=>acc (fun i=>(S i).ho b) (Wb b) (fun i=>L.getD i false) ops.size
 let tl:Array Bool→Nat→V:=fun L t=>acc (fun i=>(S i).t.getD t .un) (Wt t) (fun i=>L.getD i false) ops.size
 have hconf:∀ i k b,i<k→k<ops.size→((b∈(ws i).map (·.1)∧(b∈(ws k).map (·.1)∨b∈rd k))∨(b∈rd i∧b∈(ws k).map (·.1)))→bef ops i ops.size k=true:=by
  intro i k b hik hkn hb
  obtain⟨o,_,ho⟩:=hnth i (by omega)
  obtain⟨o',_,ho'⟩:=hnth k hkn
  have:=confOk_of c4 hik (g3 i o ho).1 (g3 k o' ho').1 (conf_of hb)
  simpa using this
 let J:Array Bool→Act→World→Prop:=fun L a w=>Closed ops L∧a.tmps.size=σ.t.length∧Bl B w0 w∧∃ m,DfOk B a.defers w (Av M (hl L) m)∧Ok B M (hl L) m w∧(∀ t,Rep w (Av M (hl L) m) m (a.eval (.tmp t)) (tl L t))∧(∀ b,m b≠none→b<σ.h.length∨∃ k,k<ops.size∧L.getD k false=true∧b∈(ws k).map (·.1))∧E w (Av M (hl L) m) m∧a.defers=dfs
 refine wp_region_headI ops.size J hm (back_of c1) (Nat.le_refl _) ?_ ?_ ?_ ?_
 · unfold fullB
   rw[List.all_eq_true]
   intro i hi
   rw[List.mem_range]at hi
   simp[hi]
 · have hf:∀ i,(Array.replicate ops.size false).getD i false=false:=fun i=>by
    rw[Array.getD_eq_getD_getElem?,Array.getElem?_replicate]
    split<;>rfl
   have e1:hl (Array.replicate ops.size false)=σ.ho:=funext fun b=>by
    show acc _ _ _ _=_
    rw[acc_after (k:=0) (Nat.zero_le _) fun i _ _ _=>hf i]
    show(S 0).ho b=_
    rw[g1]
   have e2:∀ t,tl (Array.replicate ops.size false) t=σ.t.getD t .un:=fun t=>by
    show acc _ _ _ _=_
    rw[acc_after (k:=0) (Nat.zero_le _) fun i _ _ _=>hf i]
    show(S 0).t.getD t .un=_
    rw[g1]
   have hd:Below w.heap.size w w.drew:=(Below.refl _ _).drew
   refine⟨fun i hi=> ?_,H.sz,H.bl.drew,m, ?_, ?_,fun t=> ?_,fun b hb=> .inl (H.nm b hb),by rw[e1];exact hE _ _ _ _ _ _ hE0 (.call hd),hds0⟩
   · rw[hf i]at hi;cases hi
   · rw[e1];exact H.df.mo (Mo.call (m:=m) hd)
   · rw[e1];exact H.K.call hd
   · rw[e1,e2];exact(H.slot t).mo (.call hd)
 · intro L a w hs hJ i hi hf hp
   obtain⟨hc,hsz,hbl,m,hdf,K,hsl,hnm,hE1,hds⟩:=hJ
   obtain⟨o,ho,hol⟩:=hnth i hi
   obtain⟨q1,q2,q3⟩:=g3 i o hol
   have hlt:∀ k b,i<k→k<ops.size→b∈(ws k).map (·.1)→(b∈(ws i).map (·.1)∨b∈rd i)→L.getD k false=false:=by
    intro k b hik hkn hb hbi
    cases hL:L.getD k false with
    |false=>rfl
    |true=>
      have:=bef_done hc _ _ (hconf i k b hik hkn (hbi.elim (fun h=> .inl ⟨h,.inl hb⟩) fun h=> .inr ⟨h,hb⟩)) (hc k hL)
      rw[hf]at this
      cases this
   have hpre:∀ k b,k<i→b∈(ws k).map (·.1)→(b∈(ws i).map (·.1)∨b∈rd i)→L.getD k false=true:=fun k b hki hb hbi=>
    bef_done hc _ _ (hconf k i b hki hi (.inl ⟨hb,hbi⟩)) hp
   have hagree:∀ b,(b∈(ws i).map (·.1)∨b∈rd i)→hl L b=(S i).ho b:=by
    intro b hb
    show acc _ _ _ _=_
    rw[acc_after (k:=i) (by omega) fun k h1 h2 h3=> ?_,acc_upto (fun k hk=>hXb b k (by omega)) fun k hk hw=>hpre k b hk (of_decide_eq_true hw) hb]
    rcases Nat.lt_or_ge i k with h4|h4
    · exact hlt k b h4 h2 (of_decide_eq_true h3) hb
    · rw[show k=i by omega];exact hf
   have hslot : ∀ t, (∀ j p, ops[j]? = some p → p.dst = some t → j ∈ predsOf ops i ∨ (i < j ∧ bef ops i ops.size j = true)) → tl L t = (S i).t.getD t .un := by
    intro t hdep
    have hj:∀ k,k<ops.size→Wt t k=true→k∈predsOf ops i∨(i<k∧bef ops i ops.size k=true):=by
     intro k hk hw
     obtain⟨p,hp',_⟩:=hnth k hk
     have:=of_decide_eq_true hw
     rw[hp']at this
     exact hdep k p hp' this
    show acc _ _ _ _=_
    rw[acc_after (k:=i) (by omega) fun k h1 h2 h3=> ?_,acc_upto (fun k hk=>hXt t k (by omega)) fun k hk hw=>(hj k (by omega) hw).elim (hp k) fun h=>absurd h.1 (by omega)]
    rcases hj k h2 h3 with h4|h4
    · obtain⟨o',ho',e',he',hb',rfl⟩:=mem_predsOf.1 h4
      have:=back_of c1 i o' ho' e' he' hb'
      omega
    · cases hL:L.getD k false with
      |false=>rfl
      |true=>
        have:=bef_done hc _ _ h4.2 (hc k hL)
        rw[hf]at this
        cases this
   have hst := q3 a w (hl L) m K ⟨fun t ht => by
     have:=hsl t
     rw[hslot t fun j p hj hd=>(depOk_of c2 ho).1 j p t hj hd ht]at this
     exact this,K.gl⟩ (fun j c d hg hd=>by
     have:=hsl d
     have hpj:=(depOk_of c2 ho).2 j c hg
     cases hj:ops[j]? with
     |none=>rw[hj]at hd;cases hd
     |some p=>
       rw[hj]at hd
       rw[hslot d fun j' p' hj' hd'=>by rw[dstOk_of c3 hj' hj hd' hd];exact .inl hpj]at this
       exact this) (fun b hb=>hagree b (.inr hb)) (fun b hb _=>hagree b (.inl hb)) (fun b hb hbl=>⟨by
     rw[hagree b (.inl hb)]
     simp only[St.ho,List.getD_eq_getElem?_getD,List.getElem?_eq_none hbl];rfl,by
     cases hmb:m b with
     |none=>rfl
     |some x=>
       rcases hnm b (by rw[hmb];intro e;cases e)with h1|⟨k,hk1,hk2,hk3⟩
       · have:=hhl 0 i (Nat.zero_le _) (by omega)
         rw[g1]at this
         omega
       · rcases Nat.lt_or_ge k i with h2|h2
         · have h3:=hin k hk1 b hk3
           have h4:=hhl (k+1) i h2 (by omega)
           omega
         · rcases Nat.lt_or_ge i k with h3|h3
           · have:=hlt k b h3 hk1 hk3 (.inl hb)
             rw[hk2]at this;cases this
           · have:k=i:=by omega
             subst this
             rw[hk2]at hf;cases hf⟩)
   refine wpOp_of hFx hnd ho hst fun u w' hpost=> ?_
   obtain⟨m',p1,p2,p3,p4,p5⟩:=hpost
   have hset:∀ k,k≠i→(L.setIfInBounds i true).getD k false=L.getD k false:=fun k hk=>getD_ne (fun e=>hk e.symm)
   have hseti:(L.setIfInBounds i true).getD i false=true:=getD_eq (by omega)
   have eh:hl (L.setIfInBounds i true)=upds (hl L) (ws i):=funext fun b=>by
    by_cases hb:b∈(ws i).map (·.1)
    · have h1:hl (L.setIfInBounds i true) b=(S (i+1)).ho b:=by
       show acc _ _ _ _=_
       rw[acc_after (k:=i+1) (by omega) fun k h1 h2 h3=>by rw[hset k (by omega)];exact hlt k b (by omega) h2 (of_decide_eq_true h3) (.inl hb)]
       show(if _ then _ else _)=_
       rw[if_pos]
       simp only[hseti,Bool.true_and]
       exact decide_eq_true hb
      rw[h1,q2]
      show(apps (S i).h (ws i)).getD b .dead=_
      rw[apps_ho]
      exact upds_in hb
    · rw[upds_out hb]
      refine acc_congr fun k hk hw=>hset k fun e=> ?_
      subst e
      exact hb (of_decide_eq_true hw)
   refine⟨closed_set hc hp,by rw[put_size.1];exact hsz,hbl.trans p4,m',by rw[put_size.2,eh];exact hdf.mo p3,by rw[eh];exact p1,fun t=> ?_,fun b hb=> ?_,by rw[eh];exact hE _ _ _ _ _ _ hE1 p3,put_size.2.trans hds⟩
   · rw [eh]
     rcases Nat.lt_or_ge t σ.t.length with ht|ht
     · have hget := put_get (a := a) (d := o.dst) (u := u) (i := t) (by rw [hsz]; exact ht)
       have he:(a.put o.dst u).eval (.tmp t)=if o.dst=some t then u else a.eval (.tmp t):=hget
       by_cases hd:o.dst=some t
       · rw [he, if_pos hd]
         have h1:tl (L.setIfInBounds i true) t=(S (i+1)).t.getD t .un:=by
          show acc _ _ _ _=_
          rw[acc_after (k:=i+1) (by omega) fun k h1 h2 h3=> ?_]
          · show(if _ then _ else _)=_
            rw[if_pos]
            simp only[hseti,Bool.true_and]
            exact decide_eq_true (by rw[ho];exact hd)
          · obtain⟨p,hp',_⟩:=hnth k h2
            have h4:=of_decide_eq_true h3
            rw[hp']at h4
            have:=dstOk_of c3 hp' ho h4 hd
            omega
         rw[h1,q2]
         show Rep _ _ _ _ (((S i).put o.dst (v i)).getD t .un)
         rw[stput_get,if_pos ⟨hd,by rw[hlen i (by omega)];exact ht⟩]
         exact p2
       · rw[he,if_neg hd]
         have h1:tl (L.setIfInBounds i true) t=tl L t:=acc_congr fun k hk hw=>hset k fun e=>by
          subst e
          have:=of_decide_eq_true hw
          rw[ho]at this
          exact hd this
         rw[h1]
         exact(hsl t).mo p3
     · have hun:∀ i,i≤ops.size→(S i).t.getD t .un= .un:=fun i hi=>by
        rw[List.getD_eq_getElem?_getD,List.getElem?_eq_none (by rw[hlen i hi];exact ht)];rfl
       have h1:∀ n,n≤ops.size→acc (fun i=>(S i).t.getD t .un) (Wt t) (fun k=>(L.setIfInBounds i true).getD k false) n= .un:=by
        intro n
        induction n with
        |zero=>intro hn;exact hun 0 hn
        |succ n ih=>
          intro hn
          unfold acc
          split
          · exact hun _ hn
          · exact ih (by omega)
       show Rep _ _ _ _ (acc _ _ _ _)
       rw[h1 _ (Nat.le_refl _)]
       exact .un _ _
   · rcases p5 b hb with h1|h1
     · rcases hnm b h1 with h2|⟨k,hk1,hk2,hk3⟩
       · exact .inl h2
       · refine .inr ⟨k,hk1, ?_,hk3⟩
         by_cases hki:k=i
         · subst hki;exact hseti
         · rw[hset k hki];exact hk2
     · exact .inr ⟨i,hi,hseti,h1⟩
 · intro L a w hs hall hJ
   obtain⟨hc,hsz,hbl,m,hdf,K,hsl,hnm,hE1,hds⟩:=hJ
   have hS:S ops.size=σ':=by rw[←g2];simp
   have e1:hl L=σ'.ho:=funext fun b=>by
    show acc _ _ _ _=_
    rw[acc_upto (fun k hk=>hXb b k hk) fun k hk _=>hall k hk,hS]
   have e2:∀ t,tl L t=σ'.t.getD t .un:=fun t=>by
    show acc _ _ _ _=_
    rw[acc_upto (fun k hk=>hXt t k hk) fun k hk _=>hall k hk,hS]
   rw[show ops.toList.drop ops.size=[]from List.drop_of_length_le (by simp)]
   refine hQ a m w ⟨by rw[←e1];exact K,by rw[hsz,←hS,hlen _ (Nat.le_refl _)],by rw[←e1];exact hdf,fun i x hx=> ?_,fun b hb=> ?_,hbl⟩ (by rw[←e1];exact hE1) hds
   · have:=hsl i
     rw[e1,e2,List.getD_eq_getElem?_getD,hx]at this
     exact this
   · rcases hnm b hb with h1|⟨k,hk1,hk2,hk3⟩
     · have:=hhl 0 ops.size (Nat.zero_le _) (Nat.le_refl _)
       rw[g1,hS]at this
       omega
     · have h2:=hin k hk1 b hk3
       have h3:=hhl (k+1) ops.size hk1 (Nat.le_refl _)
       rw[hS]at h3
       omega
end
end Go.Proofs.YtfdfbenejkmnlaaGreatDoor.E
namespace Go.Proofs.YtfdfbenejkmnlaaGreatDoor.E
open Go.RowKit
set_option linter.unusedVariables false
set_option linter.unusedSimpArgs false
section
variable {P:Program} {f:FuncId} {d:RD}
theorem io_mo {w w':World} {A A':Nat→Prop} {m m' m0:Nat→Option Value} {n:Nat} (h:∀ j,j<n→m j=m0 j∧m0 j≠none) (g:Mo w A m w' A' m'):∀ j,j<n→m' j=m0 j∧m0 j≠none:=fun j hj=>by
 obtain⟨h1,h2⟩:=h j hj
 cases hv:m0 j with
 |none=>exact absurd hv h2
 |some v=>exact⟨by rw[g.mm j v (by rw[h1,hv])],by intro e;cases e⟩
/-- From a state, with what is to come, the function returns what d stands for. -/
def GdX (E:Ending→Value→Prop) (P:Program) (f:FuncId) (d:RD) (td:List Item) (σ:St):Prop:=
 ∀ (w0:World) (B M:Nat→Prop) (m0:Nat→Option Value) (b:Frame) (a:Act) (m:Nat→Option Value) (w:World) (cs:List Frame),b.fn=f→b.kind= .normal→unmk a.defers=d.rest m0→(∀ j,j<d.n→m j=m0 j∧m0 j≠none)→SOk B M w0 σ a m w→
  ∃ e w' fr,(∃ v,E e v∧d.ok B M m0 w' v∧Bl B w0 w')∧Comes P (lone (b.at a td) cs w) (lone fr cs w') e∧fr.fn=f∧fr.leaving P w' e
def Gd (P:Program) (f:FuncId) (d:RD) (td:List Item) (σ:St):Prop:=GdX retE P f d td σ
theorem GdX.of_step {E:Ending→Value→Prop} {td td':List Item} {σ:St} (h:GdX E P f d td' σ) (hs:∀ (b:Frame) (a:Act) (cs:List Frame) (w:World),a.tmps.size=σ.t.length→step P (lone (b.at a td) cs w)= .next (lone (b.at a td') cs w)):GdX E P f d td σ:=by
 intro w0 B M m0 b a m w cs hf hk hrs hM H
 obtain⟨e,w',fr,h1,h2,h3⟩:=h w0 B M m0 b a m w cs hf hk hrs hM H
 exact⟨e,w',fr,h1,.of_steps (.one (hs b a cs w H.sz)) h2,h3⟩
theorem add_at {ks:Ks} {o:Out P} {td:List Item} {σ:St} {sc:List (Fa P)} {ks':Ks} (h:o.add ks= .at_ td σ sc ks'):∃ k2,o= .at_ td σ sc k2∧ks'=ks++k2:=by
 cases o with
 |bad=>cases h
 |at_ td2 σ2 sc2 k2=>
   simp only[Out.add,Out.at_.injEq]at h
   obtain⟨rfl,rfl,rfl,rfl⟩:=h
   exact⟨k2,rfl,rfl⟩
theorem region_ok {B:Nat→Prop} {M:Nat→Prop} {w0 w:World} {a:Act} {m:Nat→Option Value} {Fx:Fence} {nf:Nat} {id:Nat} {ops:Array Oper} {dr:Bool} {σ σ1:St} {fps:List Fp} {sc sc1:List (Fa P)} {k1:Ks} (hm:P.follows .mixedOrders=true) (hFx:WideF Fx) (hr:regR P ops ops.toList [] σ sc=some (σ1,fps,sc1,k1)) (hk1:∀ p∈k1,p.1=p.2)
  (hc:(nodef ops&&(!dr||(backB ops&&(depOk ops&&(dstOk ops&&confOk ops fps 0)))))=true) (E:World→(Nat→Prop)→(Nat→Option Value)→Prop) (hE:∀ w A m w' A' m',E w A m→Mo w A m w' A' m'→E w' A' m') (H:SOk B M w0 σ a m w) (hE0:E w (Av M σ.ho m) m) {dfs:List Deferred} (hds:a.defers=dfs):(Code.region id ops dr).wpIn Fx nf P (fun e a w=>e= .normal∧∃ m,SOk B M w0 σ1 a m w∧E w (Av M σ1.ho m) m∧a.defers=dfs) a w:=by
 simp only[Bool.and_eq_true]at hc
 obtain⟨hnd,hc⟩:=hc
 cases dr with
 |false=>exact wpIn_region_list (seq_ok hFx hnd E hE ops.toList [] 0 σ σ1 fps sc sc1 k1 a m w (by simp) hr hk1 H hE0 hds fun a m w H h h2=>⟨rfl,m,H,h,h2⟩)
 |true=>
  simp only[Bool.not_true,Bool.false_or,Bool.and_eq_true]at hc
  obtain⟨c1,c2,c3,c4⟩:=hc
  exact draw_ok hFx hnd E hE hm hr hk1 c1 c2 c3 c4 H hE0 hds fun a m w H h h2=>⟨rfl,m,H,h,h2⟩
theorem run_okX {E:Ending→Value→Prop} (hm:P.follows .mixedOrders=true):∀ (n:Nat) (td td':List Item) (σ σ':St) (sc sc':List (Fa P)) (ks:Ks),run P n td σ sc= .at_ td' σ' sc' ks→(∀ p∈ks,p.1=p.2)→GdX E P f d td' σ'→GdX E P f d td σ:=by
 intro n
 induction n with
 |zero=>intro td td' σ σ' sc sc' ks e;cases e
 | succ n ih =>
   intro td td' σ σ' sc sc' ks e hk hg
   have hsame:Out.at_ (P:=P) td σ sc []= .at_ td' σ' sc' ks→GdX E P f d td σ:=by
    intro e
    simp only[Out.at_.injEq]at e
    obtain⟨rfl,rfl,rfl,rfl⟩:=e
    exact hg
   cases td with
   |nil=>exact hsame (by simpa only[run]using e)
   |cons x k=>
     cases x with
     |inBlock id=>
       simp only[run]at e
       exact(ih _ _ _ _ _ _ _ e hk hg).of_step fun b a cs w _=>step_inBlock
     |inScope id=>
       simp only[run]at e
       exact(ih _ _ _ _ _ _ _ e hk hg).of_step fun b a cs w _=>step_inScope
     |inLoop c=>
       simp only[run,Out.at_.injEq]at e
       obtain⟨rfl,rfl,rfl,rfl⟩:=e
       exact hg.of_step fun b a cs w _=>step_inLoop
     |code c=>
       cases c with
       |skip=>
         simp only[run]at e
         exact(ih _ _ _ _ _ _ _ e hk hg).of_step fun b a cs w _=>step_skip
       |label l=>
         simp only[run]at e
         exact(ih _ _ _ _ _ _ _ e hk hg).of_step fun b a cs w _=>step_label
       |scope c=>
         simp only[run]at e
         exact(ih _ _ _ _ _ _ _ e hk hg).of_step fun b a cs w _=>step_scope
       |seq x y=>
         simp only[run]at e
         exact(ih _ _ _ _ _ _ _ e hk hg).of_step fun b a cs w _=>step_seq
       |block id c=>
         simp only[run]at e
         exact(ih _ _ _ _ _ _ _ e hk hg).of_step fun b a cs w _=>step_block
       |exit id=>
         simp only[run]at e
         split at e
         · rename_i k' hk'
           exact(ih _ _ _ _ _ _ _ e hk hg).of_step fun b a cs w _=>step_exit hk'
         · cases e
       |loop c=>
         simp only[run,Out.at_.injEq]at e
         obtain⟨rfl,rfl,rfl,rfl⟩:=e
         exact hg.of_step fun b a cs w _=>step_loop
       |ret=>exact hsame (by simpa only[run]using e)
       |rangeFunc f p x y=>exact hsame (by simpa only[run]using e)
       |cond c x y=>
         simp only[run]at e
         split at e
         · rename_i t t0 b0 hb sc1 hc
           obtain⟨k2,h1,rfl⟩:=add_at e
           have hkey:=hk _ (List.mem_append.2 (.inl (List.mem_singleton.2 rfl)))
           simp only[List.cons.injEq,V.k.injEq,Value.bool.injEq,and_true]at hkey
           subst hkey
           have h2:=ih _ _ _ _ _ _ _ h1 (fun p hp=>hk p (List.mem_append.2 (.inr hp))) hg
           intro w0 B M m0 b a m w cs hf hkd hrs hM H
           obtain⟨e',w',fr,h3,h4,h5⟩:=h2 w0 B M m0 b a m w cs hf hkd hrs hM H
           have hv:=ev_rep (a:=a) (x:=c) (σ:=σ) (w:=w) (A:=Av M σ.ho m) (m:=m) H.K.gl fun t0 _=>H.slot t0
           rw[hc]at hv
           refine⟨e',w',fr,h3,.of_steps (.one (step_cond (Rep.k_inv hv))) ?_,h5⟩
           rw[hb]
           cases b0<;>exact h4
         · exact hsame e
       |region id ops dr=>
         simp only[run]at e
         split at e
         · rename_i σ1 fps sc1 k1 hr
           split at e
           · rename_i hc
             obtain⟨k2,h1,rfl⟩:=add_at e
             have h2:=ih _ _ _ _ _ _ _ h1 (fun p hp=>hk p (List.mem_append.2 (.inr hp))) hg
             have hk1:∀ p∈k1,p.1=p.2:=fun p hp=>hk p (List.mem_append.2 (.inl hp))
             intro w0 B M m0 b a m w cs hf hkd hrs hM H
             have hwp:=wpIn_wide.1 (region_ok (nf:=0) (id:=id) hm WideF.wide hr hk1 hc (fun _ _ m=>∀ j,j<d.n→m j=m0 j∧m0 j≠none) (fun _ _ _ _ _ _ g1 g2 j hj=>io_mo g1 g2 j hj) H hM rfl)
             obtain⟨e',a',w',⟨rfl,m',H',hM',hds'⟩,harr⟩:=hwp b k cs
             obtain⟨e2,w2,fr,h3,h4,h5⟩:=h2 w0 B M m0 b a' m' w' cs hf hkd (by rw[hds'];exact hrs) hM' H'
             exact⟨e2,w2,fr,h3,.of_steps harr h4,h5⟩
           · exact hsame e
         · exact hsame e
       |_=>simp[run]at e
     |_=>simp[run]at e
theorem run_ok (hm:P.follows .mixedOrders=true) (n:Nat) (td td':List Item) (σ σ':St) (sc sc':List (Fa P)) (ks:Ks) (h:run P n td σ sc= .at_ td' σ' sc' ks) (hk:∀ p∈ks,p.1=p.2) (g:Gd P f d td' σ'):Gd P f d td σ:=run_okX hm n td td' σ σ' sc sc' ks h hk g
/-- The result's cells. -/
theorem cellsAt_ok {B:Nat→Prop} {M:Nat→Prop} {h:Nat→HO} {m:Nat→Option Value} {w:World} {σ:St} {n:Nat} {x:V} {l:List V} {rd:List Nat} {u:Value} (K:Ok B M h m w) (hl:cellsAt σ n x=some (l,rd)) (hh:∀ b∈rd,h b=σ.ho b) (hx:Rep w (Av M h m) m u x):
  ∃ b off,u= .pointer (some ⟨b,off,none⟩)∧∀ j y,l[j]? =some y→∃ u,w.cell? ⟨b,off+j,none⟩=some u∧Rep w (Av M h m) m u y:=by
 unfold cellsAt at hl
 split at hl
 · rename_i b off
   split at hl
   · rename_i U l' hb
     simp only[Option.some.injEq,Prod.mk.injEq]at hl
     obtain⟨rfl,rfl⟩:=hl
     cases hx with
     |lp _ _ _ g hg=>
       obtain⟨g',cs,h1,h2,h3,h4,h5⟩:=K.bx b U l' ((hh b (by simp)).trans hb)
       rw[h1]at hg
       injection hg with hg
       injection hg with hg
       injection hg with hg
       injection hg with hg
       subst hg
       refine⟨_,_,rfl,fun j y hy=> ?_⟩
       rw[List.getElem?_take]at hy
       split at hy
       · rw[List.getElem?_drop]at hy
         have hlt:=(List.getElem?_eq_some_iff.1 hy).1
         have h6:=h5 (off+j) y hy
         refine⟨_, ?_,h6⟩
         have:off+j<cs.size:=by omega
         simp[World.cell?,h3,Array.getD_eq_getD_getElem?,Array.getElem?_eq_getElem this]
       · cases hy
   · cases hl
 · rename_i l'
   simp only[Option.some.injEq,Prod.mk.injEq]at hl
   obtain⟨rfl,rfl⟩:=hl
   cases hx with
   |ip _ b off _ us h3 h4 h5 h6=>
     refine⟨_,_,rfl,fun j y hy=> ?_⟩
     rw[List.getElem?_take]at hy
     split at hy
     · exact⟨us j,h5 j y hy,(h6 j y hy).mo Mo.up⟩
     · cases hy
 · cases hl
def resF (t:Array Value) (r:ResultVar):Sem Value:=match r with
 | .tmp x=>pure (t.getD x undef)
 | .cell x T=>do loadVar T (←asAddr (t.getD x undef))
theorem res_ok {B:Nat→Prop} {M:Nat→Prop} {m:Nat→Option Value} {w w0:World} {σ:St} {a:Act} (H:SOk B M w0 σ a m w):∀ (rs:List ResultVar) (l:List V),resV P σ rs=some l→
  ∃ us:List Value,(rs.mapM (resF a.tmps)).run P w= .ok us w∧us.length=l.length∧∀ j y,l[j]? =some y→Rep w (Av M σ.ho m) m (us.getD j undef) y
 |[],l,e=>by
  simp only[resV,Option.some.injEq]at e
  subst e
  exact⟨[],rfl,rfl,fun j y h=>by simp at h⟩
 | r :: rs, l, e => by
  unfold resV at e
  split at e
  · rename_i v l' hv hl
    injection e with e
    subst e
    obtain⟨us,h1,h2,h3⟩:=res_ok H rs l' hl
    have hone : ∃ u, (resF a.tmps r).run P w = .ok u w ∧ Rep w (Av M σ.ho m) m u v := by
     cases r with
     |tmp t=>
       simp only[Option.some.injEq]at hv
       subst hv
       exact⟨_,rfl,H.slot t⟩
     |cell x t=>
       simp only at hv
       split at hv
       · rename_i n hn
         split at hv
         · rename_i l2 rd hc
           obtain⟨b,off,h4,h5⟩:=cellsAt_ok H.K hc (fun _ _=>rfl) (thV_ok H.K 5 _ _ (fun _ _=>rfl) (H.slot x))
           obtain⟨u,h6,h7⟩:=load_ok (P:=P) hv h5
           have h4:a.tmps.getD x undef= .pointer (some ⟨b,off,none⟩):=h4
           exact⟨u,by simp[resF,h4,asAddr,h6],h7⟩
         · cases hv
       · cases hv
    obtain⟨u,h4,h5⟩:=hone
    refine⟨u::us, ?_,by simp[h2],fun j y hy=> ?_⟩
    · simp only[List.mapM_cons,Sem.run_bind,h4,Result.andThen_ok,h1,Sem.run_pure]
    · cases j with
      |zero=>simp at hy;subst hy;simpa using h5
      |succ j=>simp at hy;simpa using h3 j y hy
  · cases e
end
end Go.Proofs.YtfdfbenejkmnlaaGreatDoor.E
