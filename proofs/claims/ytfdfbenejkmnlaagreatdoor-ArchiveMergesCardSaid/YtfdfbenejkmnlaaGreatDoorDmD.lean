/-
 ARCHIVES, plain: chains, what is so of the claims of an archive, what is taken. No program in sight.
-/
import Derived.Test.YtfdfbenejkmnlaaGreatDoorDsK
import Derived.Test.YtfdfbenejkmnlaaGreatDoorDrA
namespace Go.Proofs.YtfdfbenejkmnlaaGreatDoor.E.Ca
open Go.RowKit
set_option linter.unusedVariables false
set_option linter.unusedSimpArgs false
section
variable {q r:CQ} {L M N A B C:List CQ} {i k n:Nat}
/-- A claim is the first of its name. -/
def Fst (L:List CQ) (q:CQ):Prop:=q∈L∧∀ r∈L,r.cm.nm=q.cm.nm→cmp1 q r≤0
theorem cpN_at (L : List CQ) : ∀ n, ∀ a ∈ cpN L n, ∃ j, j < n ∧ L[j]? = some a ∧ ∀ y, 0 < j → L[j - 1]? = some y → ¬ a.cm.nm = y.cm.nm
 |0,a,h=>by cases h
 |n+1,a,h=>by
  have ih:=cpN_at L n a
  have up:a∈cpN L n→∃ j,j<n+1∧L[j]? =some a∧∀ y,0<j→L[j - 1]? =some y→¬a.cm.nm=y.cm.nm:=fun ha=>by
   obtain⟨j,h1,h2⟩:=ih ha
   exact⟨j,by omega,h2⟩
  unfold cpN at h
  split at h
  · rename_i x y hx hy
    have hn:n≠0:=fun e=>by rw[if_pos e]at hy;cases hy
    rw[if_neg hn]at hy
    split at h
    · exact up h
    · rename_i e
      rcases List.mem_append.1 h with h|h
      · exact up h
      · rw[List.mem_singleton]at h
        subst h
        refine⟨n,by omega,hx,fun z _ hz=> ?_⟩
        rw[hy]at hz
        injection hz with hz
        subst hz
        exact e
  · rename_i x hx hy
    rcases List.mem_append.1 h with h|h
    · exact up h
    · rw[List.mem_singleton]at h
      subst h
      refine⟨n,by omega,hx,fun z h0 hz=> ?_⟩
      rw[if_neg (by omega),hz]at hy
      cases hy
  · exact up h
theorem cpN_cov (L : List CQ) : ∀ n j q, j < n → L[j]? = some q → ∃ a ∈ cpN L n, a.cm.nm = q.cm.nm
 |0,j,q,h,_=>by omega
 | n + 1, j, q, h, hq => by
  have ih:=cpN_cov L n
  have sub:∀ a,a∈cpN L n→a∈cpN L (n+1):=fun a ha=>by
   unfold cpN
   split
   · split
     · exact ha
     · exact List.mem_append_left _ ha
   · exact List.mem_append_left _ ha
   · exact ha
  rcases Nat.lt_or_ge j n with hj|hj
  · obtain⟨a,h1,h2⟩:=ih j q hj hq
    exact⟨a,sub a h1,h2⟩
  · have:j=n:=by omega
    subst this
    by_cases h0:j=0
    · subst h0
      exact⟨q,by rw[cp_one hq];exact List.mem_singleton.2 rfl,rfl⟩
    · obtain⟨l2,g2⟩:=List.getElem?_eq_some_iff.1 hq
      have hr:L[j - 1]? =some L[j - 1]:=List.getElem?_eq_getElem (by omega)
      by_cases e:q.cm.nm=L[j - 1].cm.nm
      · obtain⟨a,h1,h2⟩:=ih (j - 1) _ (by omega) hr
        exact⟨a,sub a h1,by rw[h2,e]⟩
      · exact⟨q,by rw[cp_new (by omega) hq hr e];exact List.mem_append_right _ (List.mem_singleton.2 rfl),rfl⟩
theorem cmp1_nm (h:cmp1 q r≤0):ordN q.cm.nm r.cm.nm≤0:=orI_le1 h
theorem sorted_fst (h:q∈sorted L):Fst L q:=by
 have hm:=(srt_mem cmp2).1 h
 obtain⟨j,h1,h2,h3⟩:=cpN_at _ _ q hm
 refine⟨sorted_sub h,fun r hr e=> ?_⟩
 obtain⟨i,hi⟩:=List.getElem?_of_mem ((srt_mem cmp1).2 hr)
 obtain⟨l1,g1⟩:=List.getElem?_eq_some_iff.1 h2
 obtain⟨l2,g2⟩:=List.getElem?_eq_some_iff.1 hi
 have pw:=List.pairwise_iff_getElem.1 (srt_pair cmp1_cmp L)
 rcases Nat.lt_trichotomy i j with hij|hij|hij
 · exfalso
   have p1:ordN r.cm.nm ((srt cmp1 L)[j - 1]'(by omega)).cm.nm≤0:=by
    rcases Nat.lt_or_eq_of_le (show i≤j - 1 by omega)with hj|hj
    · have:=cmp1_nm (pw i (j - 1) l2 (by omega) hj)
      rwa [g2]at this
    · subst hj
      rw[g2,ordN_cmp.refl]
      exact Int.le_refl _
   have p2:ordN ((srt cmp1 L)[j - 1]'(by omega)).cm.nm q.cm.nm≤0:=by
    have:=cmp1_nm (pw (j - 1) j (by omega) l1 (by omega))
    rwa [g1]at this
   rw[e]at p1
   have n1:=ordN_cmp.neg q.cm.nm ((srt cmp1 L)[j - 1]'(by omega)).cm.nm
   exact h3 _ (by omega) (List.getElem?_eq_getElem (by omega)) (ordN_eq (by omega))
 · subst hij
   have:q=r:=by rw[←g1,←g2]
   rw[this,cmp1_cmp.refl]
   exact Int.le_refl _
 · have:=pw j i l1 l2 hij
   rwa [g1,g2]at this
theorem sorted_cov (hr:r∈L):∃ a∈sorted L,a.cm.nm=r.cm.nm∧cmp1 a r≤0:=by
 obtain⟨i,hi⟩:=List.getElem?_of_mem ((srt_mem cmp1).2 hr)
 obtain⟨a,h1,h2⟩:=cpN_cov _ (srt cmp1 L).length i r (List.getElem?_eq_some_iff.1 hi).1 hi
 have hm:a∈sorted L:=(srt_mem cmp2).2 h1
 exact⟨a,hm,h2,(sorted_fst hm).2 r hr h2.symm⟩
theorem fst_sorted (hL:∀ q∈L,Sq q) (h:Fst L q):q∈sorted L:=by
 obtain⟨a,h1,h2,h3⟩:=sorted_cov h.1
 have h4:=h.2 a (sorted_sub h1) h2
 have h5:=cmp1_cmp.neg a q
 have:a=q:=cmp1_eq (hL a (sorted_sub h1)) (hL q h.1) (by omega)
 rwa [this]at h1
theorem sorted_pw (L:List CQ):(sorted L).Pairwise fun a b=>cmp2 a b<0:=by
 have h1:=srt_pair cmp2_cmp (cpt (srt cmp1 L))
 have h2:(sorted L).Pairwise fun a b=>¬a.cm.nm=b.cm.nm:=by
  refine(srt_perm cmp2 (cpt (srt cmp1 L))).symm.pairwise ((cpt_nm L).imp fun{a b} h e=> ?_) fun{a b} h e=>h e.symm
  rw[e,ordN_cmp.refl]at h
  omega
 refine(List.Pairwise.and h1 h2).imp fun{a b} h=> ?_
 rcases Int.lt_or_eq_of_le h.1 with h3|h3
 · exact h3
 · exact absurd (cmp2_nm h3) h.2
theorem strict_eq {f:CQ→CQ→Int} (hf:Cmp3 f):∀ {l l':List CQ},l.Pairwise (fun a b=>f a b<0)→l'.Pairwise (fun a b=>f a b<0)→(∀ a,a∈l↔a∈l')→l=l'
 |[],[],_,_,_=>rfl
 |[],b::u,_,_,h=>absurd ((h b).2 (List.mem_cons_self ..)) (by simp)
 |a::t,[],_,_,h=>absurd ((h a).1 (List.mem_cons_self ..)) (by simp)
 | a :: t, b :: u, h1, h2, h => by
  obtain⟨a1,a2⟩:=List.pairwise_cons.1 h1
  obtain⟨b1,b2⟩:=List.pairwise_cons.1 h2
  have e : a = b := by
   rcases List.mem_cons.1 ((h a).1 (List.mem_cons_self ..))with e|e
   · exact e
   · rcases List.mem_cons.1 ((h b).2 (List.mem_cons_self ..))with e2|e2
     · exact e2.symm
     · have h3:=a1 b e2
       have h4:=b1 a e
       have:=hf.neg a b
       omega
  subst e
  have irr:∀ {x:CQ},¬f x x<0:=fun{x} h=>by rw[hf.refl]at h;omega
  rw[strict_eq hf a2 b2 fun x=>⟨fun hx=> ?_,fun hx=> ?_⟩]
  · rcases List.mem_cons.1 ((h x).1 (List.mem_cons_of_mem _ hx))with e|e
    · subst e;exact absurd (a1 _ hx) irr
    · exact e
  · rcases List.mem_cons.1 ((h x).2 (List.mem_cons_of_mem _ hx))with e|e
    · subst e;exact absurd (b1 _ hx) irr
    · exact e
/-- Fewer claims, of which each other is a repetition or a later one. -/
theorem sorted_eq (hN:∀ q∈N,Sq q) (h1:∀ q∈M,q∈N) (h2:∀ r∈N,∃ a∈M,a.cm.nm=r.cm.nm∧cmp1 a r≤0):sorted M=sorted N:=by
 refine strict_eq cmp2_cmp (sorted_pw M) (sorted_pw N) fun q=>⟨fun h=>fst_sorted hN ?_,fun h=>fst_sorted (fun q hq=>hN q (h1 q hq)) ?_⟩
 · have hf:=sorted_fst h
   refine⟨h1 q hf.1,fun r hr e=> ?_⟩
   obtain⟨a,k1,k2,k3⟩:=h2 r hr
   exact cmp1_cmp.tr q a r (hf.2 a k1 (k2.trans e)) k3
 · have hf:=sorted_fst h
   obtain⟨a,k1,k2,k3⟩:=h2 q hf.1
   have k4:=hf.2 a (h1 a k1) k2
   have k5:=cmp1_cmp.neg a q
   have e:a=q:=cmp1_eq (hN a (h1 a k1)) (hN q hf.1) (by omega)
   rw[e]at k1
   exact⟨k1,fun r hr e=>hf.2 r (h1 r hr) e⟩
theorem sorted_same (hN:∀ q∈N,Sq q) (h:∀ q,q∈M↔q∈N):sorted M=sorted N:=
 sorted_eq hN (fun q hq=>(h q).1 hq) fun r hr=>⟨r,(h r).2 hr,rfl,by rw[cmp1_cmp.refl];exact Int.le_refl _⟩
theorem sorted_idem (h:∀ q∈A,Sq q):sorted (sorted A)=sorted A:=
 sorted_eq h (fun q hq=>sorted_sub hq) fun r hr=>sorted_cov hr
end
end Go.Proofs.YtfdfbenejkmnlaaGreatDoor.E.Ca
namespace Go.Proofs.YtfdfbenejkmnlaaGreatDoor.E
open Go.RowKit
set_option linter.unusedVariables false
set_option linter.unusedSimpArgs false
section
variable {P:Program} {w:World}
theorem x_apw1 {T e b j n bytes N:Nat} {l l2 l':List (List V)} (hT:P.underlying T=some (.slice e)) (hap:apT P e=some (n,bytes)) (hbj:b<j) (happ:l++l2=l') (h0:0<l2.length) (hn:l'.length≤N) (hlim:apLim N bytes=true) (hz:∀ cs∈l2,cs.length=n∧cs.all one=true):
  Ext P (mkAq T) [.ow b,.sl l2] [(b,.rw e n l)] [(j,.rw e n l'),(b,.dead)] (.ow j):=by
 intro B M h m w a o xs ho K hl hr hrd hws
 obtain⟨x,y,rfl⟩:=two_of hl
 have hx:=hr 0 x _ rfl rfl
 have hy:=hr 1 y _ rfl rfl
 have hb:h b= .rw e n l:=hrd (b,.rw e n l) (List.mem_singleton.2 rfl)
 obtain⟨hj1,hj2⟩:=hws j (by simp) (by simp;omega)
 let a':Act:={a with tmps:= #[a.eval x,a.eval y]}
 have hlen:(apS b j (.rw e n l) l2).h.length=j:=by simp[apS]
 have hho:(apS b j (.rw e n l) l2).ho b= .rw e n l:=by simp[apS,St.ho,hbj]
 have e0 : aop P (apO T o) (apS b j (.rw e n l) l2) ([.aps l l2 l' N n happ h0 hn hz] : List (Fa P)) = some ⟨.ow j, [(j, .rw e n l'), (b, .dead)], [b], [], [([.sl l, .sl l2], [.sl l, .sl l2])]⟩ := by
  have n1:Nat.beq T T=true:=Nat.beq_refl T
  have n2:Nat.beq n n=true:=Nat.beq_refl n
  have n3:Nat.beq e e=true:=Nat.beq_refl e
  have s1:(apS b j (.rw e n l) l2).evT P T (.tmp 0)= .ow b:=rfl
  have s2:(apS b j (.rw e n l) l2).ev (.tmp 1)= .sl l2:=rfl
  show (match P.underlying T with
       |some (.slice e)=>match Nat.beq T T,apT P e with
         |true,some (n,bytes)=>appV (apS b j (.rw _ _ l) l2) e n bytes ((apS b j (.rw _ _ l) l2).evT P T (.tmp 0)) ((apS b j (.rw _ _ l) l2).ev (.tmp 1)) _
         |_,_=>none
       |_=>none)=_
  rw[hT]
  simp only[n1,hap,s1,s2,appV,hho,n2,n3,hlim,hlen,Bool.and_self]
 have hop:Opd w (Av M h m) m (apO T o) a' (apS b j (.rw e n l) l2):=by
  refine⟨fun t ht=> ?_,K.gl⟩
  have:t=0∨t=1:=by simpa[looks,apO,mkAq,Op.operands,Call.operands]using ht
  rcases this with rfl|rfl
  · exact hx
  · exact hy
 have G:=append_ok (o:=apO T o) (a:=a') K rfl rfl e0 (fun p hp=>by rw[List.mem_singleton.1 hp]) hop (fun c hc=>by rw[List.mem_singleton.1 hc,hb,hho]) (fun c hc hlt=>by
   rw[hlen]at hlt
   simp only[List.map_cons,List.map_nil,List.mem_cons,List.not_mem_nil,or_false]at hc
   rcases hc with rfl|rfl
   · omega
   · rw[hb,hho]) (fun c hc hle=>by
   rw[hlen]at hle
   simp only[List.map_cons,List.map_nil,List.mem_cons,List.not_mem_nil,or_false]at hc
   rcases hc with rfl|rfl
   · exact⟨hj1,hj2⟩
   · omega)
 have heq:execOp a'.eval (apO T o)=execOp a.eval o:=by
  have e1:a'.eval (.tmp 0)=a.eval x:=rfl
  have e2:a'.eval (.tmp 1)=a.eval y:=rfl
  simp[execOp,apO,mkAq,ho,resolve,e1,e2,invoke,builtin]
 unfold Goal_ Exec at G
 rw[heq]at G
 exact G
/-- A row of the call's own, and what is appended to it, which may have no elements. -/
theorem x_apw {T e b j n bytes N:Nat} {l l2 l':List (List V)} (hT:P.underlying T=some (.slice e)) (hap:apT P e=some (n,bytes)) (hbj:b<j) (happ:l++l2=l') (hn:l'.length≤N) (hlim:apLim N bytes=true) (hz:∀ cs∈l2,cs.length=n∧cs.all one=true):
  Ext P (mkAq T) [.ow b,.sl l2] [(b,.rw e n l)] [(j,.rw e n l'),(b,.dead)] (.ow j):=by
 by_cases h0:0<l2.length
 · exact x_apw1 hT hap hbj happ h0 hn hlim hz
 have hl2:l2=[]:=List.eq_nil_of_length_eq_zero (by omega)
 subst hl2
 rw[List.append_nil]at happ
 subst happ
 intro B M h m w a o xs ho K hl hr hrd hws
 obtain⟨x,y,rfl⟩:=two_of hl
 have hx:=hr 0 x _ rfl rfl
 have hy:=hr 1 y _ rfl rfl
 have hb:h b= .rw e n l:=hrd (b,.rw e n l) (List.mem_singleton.2 rfl)
 obtain⟨hj1,hj2⟩:=hws j (by simp) (by simp;omega)
 simp only[mkAq,List.getD_cons_zero,List.getD_cons_succ]at ho
 obtain⟨i,z,i1,i2,i3,i4,i5,i6⟩:=apT_of hap
 have hs:szT P e=some i.size:=by unfold szT;rw[i1];rfl
 obtain⟨v1,xs1,h1,h2,h3,h4,h5⟩:=K.rw b e n l hb
 generalize hu:a.eval x=u at hx
 generalize hv:a.eval y=v at hy
 cases hx with
 |ow _ _ ad n' c hm=>
  rw[h1]at hm
  injection hm with hm
  subst hm
  have hle:n'≤c:=by
   rcases h3.2 with⟨e1,e2⟩|⟨g,cap,cur,e1,_,_,e2,_⟩
   · injection e1 with e1 e3 e4;omega
   · injection e1 with e1 e3 e4;omega
  have hbu:E.blk (.slice ad n' c)=(Value.slice ad n' c).ownBlock:=by
   rcases h3.2 with⟨e1,e2⟩|⟨g,cap,cur,e1,_,_,e2,_⟩
   · rw[e1];rfl
   · rw[e1];rfl
  obtain⟨K2,M2⟩:=K.app (i:=j) (x:= .rw e n l) (u':= .slice ad n' c) (w':=w) (by rw[hb];rfl) h1 hbu (by omega) hj1 hj2 ⟨rfl,rfl,rfl,Nat.le_refl _,fun _ _ _=>rfl⟩ (fun g e=> .inl e) (fun _ _ e=>by cases e) (fun T' z' l2 e=>by
   injection e with e1 e2 e3
   subst e1;subst e2;subst e3
   exact⟨xs1,h2,h3,h4,h5⟩) rfl
  cases hy with
  | sl _ ad2 b2 o2 c2 z2 _ us g1 g2 g3 g4 g5 g6 =>
   refine Exec.val (u:= .slice ad n' c) (w':=w) ?_ ⟨upd m j (some (.slice ad n' c)),K2,.ow _ _ _ _ _ upd_eq,M2,Bl.refl _ _,fun k hk=> ?_⟩
   · have:=append_none (P:=P) (w:=w) (ty:=o.type) (ad:=ad) (X:=ad2) (c2:=c2) hT hs hle
     simp[execOp,ho,resolve,invoke,builtin,hu,hv,this]
   · by_cases hkj:k=j
     · exact .inr (by simp[hkj])
     · rw[upd_ne hkj]at hk
       exact .inl hk
end
end Go.Proofs.YtfdfbenejkmnlaaGreatDoor.E
namespace Go.Proofs.YtfdfbenejkmnlaaGreatDoor.E.Ca
open Go.RowKit
set_option linter.unusedVariables false
set_option linter.unusedSimpArgs false
section
variable {q r:CQ} {L M N A B C:List CQ} {i k n:Nat}
noncomputable abbrev fSA:Func:=fnOf PP 11
/-- A list of claims is the same as itself. -/
theorem e_sameAll (L:List CQ):Pure PP 11 [.sl (L.map dQ),.sl (L.map dQ)] (bo true):=by
 refine .len 0 (l:=L.map dQ) (by kernel_rfl) rfl fun hm=> ?_
 rw[List.length_map]at hm
 unfold maxLen at hm
 have ne:((((L.map dQ).length:Int) != ((L.map dQ).length:Int)):Bool)=false:=by simp
 have el:((L.map dQ).length:Int)=(L.length:Int):=by rw[List.length_map]
 let X:Nat→St:=fun k=>at_ fSA [(0,.sl (L.map dQ)),(1,.sl (L.map dQ)),(5,ni k)] []
 refine pf (by kernel_rfl) (.to mo_ [] [0,1,5] [] 0 [na ne] (td':=lp fSA 0) (σ':=X 0) ?_ (by kernel_rfl))
 refine Gd.loop X (fun k=>k≤L.length) (fun k=>L.length - k) ?_ 0 (Nat.zero_le _)
 intro k hk ih
 by_cases h:k<L.length
 · have lt:decide ((k:Int)<((L.map dQ).length:Int))=true:=decide_eq_true (by omega)
   obtain⟨q,hq⟩:∃ q,L[k]? =some q:=⟨_,List.getElem?_eq_getElem h⟩
   have hq2:=dQ_at hq
   have nx:=ih (k+1) h (by omega)
   have sm:=e_csame6 q q
   rw[decide_eq_true (eqP_iff.2 rfl)]at sm
   exact .to mo_ [] [0,1,5] [] 0 [ye lt,.sel _ _ _ hq2,.sel _ _ _ hq2,cl sm,nf,inc 16 k (by omega)] nx (by kernel_rfl)
 · have lt:decide ((k:Int)<((L.map dQ).length:Int))=false:=decide_eq_false (by omega)
   exact fi [na lt] (by kernel_rfl) (by kernel_rfl)
end
end Go.Proofs.YtfdfbenejkmnlaaGreatDoor.E.Ca
namespace Go.Proofs.YtfdfbenejkmnlaaGreatDoor.E.Ca
open Go.RowKit
set_option linter.unusedVariables false
set_option linter.unusedSimpArgs false
section
variable {q r:CQ} {A B C L S O:List CQ} {a i k n:Nat} {l m:List Int} {turn:Int}
abbrev slQ (L:List CQ):V:= .sl (L.map dQ)
theorem dQs_ok (L:List CQ):∀ cs∈L.map dQ,cs.length=35∧cs.all one=true:=fun cs h=>by
 obtain⟨q,_,rfl⟩:=List.mem_map.1 h
 exact dQ_ok q
theorem dQs_z (L:List CQ):∀ cs∈L.map dQ,cs.length=35:=fun cs h=>(dQs_ok L cs h).1
noncomputable def bC:Nat:=match apT PP TCl with
 |some p=>p.2
 |none=>0
theorem bC_ok:apT PP TCl=some (35,bC):=by kernel_rfl
theorem bC_lim:apLim 2000 bC=true:=by kernel_rfl
theorem apw {b j:Nat} (hbj:b<j) (A B:List CQ) (hn:(A++B).length≤2000):Ext PP (mkAq 23) [.ow b,slQ B] [(b,.rw TCl 35 (A.map dQ))] [(j,.rw TCl 35 ((A++B).map dQ)),(b,.dead)] (.ow j):=
 x_apw (e:=TCl) (n:=35) (bytes:=bC) (N:=2000) (by kernel_rfl) bC_ok hbj (by rw[List.map_append]) (by rw[List.length_map];exact hn) bC_lim (dQs_ok B)
theorem apz {b j:Nat} (hbj:b<j) (A B:List CQ) (hn:(A++B).length≤2000):Ext PP (mkAq 23) [.ow b,slQ B] [(b,.rw TCl 35 (A.map dQ))] [(j,.dead),(b,.dead)] (slQ (A++B)):=
 x_apz (e:=TCl) (n:=35) (bytes:=bC) (N:=2000) (by kernel_rfl) bC_ok hbj (by rw[List.map_append]) (by rw[List.length_map];exact hn) bC_lim (dQs_ok B)
theorem e_sortR (hL:∀ q∈L,Sq q) (hn:L.length≤10000):Pure PP 12 [slQ L] (slQ (sorted L)):=Pure.ro (e_csort hL hn)
end
end Go.Proofs.YtfdfbenejkmnlaaGreatDoor.E.Ca
namespace Go.Proofs.YtfdfbenejkmnlaaGreatDoor.E.Ca
open Go.RowKit
set_option linter.unusedVariables false
set_option linter.unusedSimpArgs false
abbrev TI:Nat:= 3
abbrev TArc:Nat:= 81
abbrev TPA:Nat:= 45
abbrev TMap:Nat:= 79
section
variable {L:List CQ} {p:Int×Int} {q r c:CQ} {b i j k n:Nat} {cs:List Int} {ok:Bool}
noncomputable def fsN:Array Field:=match PP.underlying 54 with
 |some (.struct fs)=>fs
 |_=> #[]
theorem kT:KeyT PP TMap 54 TCl:=⟨by kernel_rfl,fun p q w=>by
  have:=eqN p q w
  rw[nm_dec]at this
  exact this,fun b p w=>by kernel_rfl,⟨fsN,by kernel_rfl⟩⟩
/-- A claim by its name. -/
def fnd (L:List CQ) (p:Int×Int):Option CQ:=L.find? fun q=>decide (q.cm.nm=p)
def mpL (L:List CQ):List (V×V):=L.map fun q=>(kV q.cm.nm,.ag (dQ q))
theorem mpL_nms (L:List CQ):nmsOf (mpL L) (L.map fun q=>q.cm.nm):=by
 unfold nmsOf mpL
 rw[List.map_map,List.map_map]
 rfl
theorem fnd_some (h:fnd L p=some q):∃ j:Nat,L[j]? =some q∧q.cm.nm=p∧∀ t:Nat,t<j→(L.map fun q=>q.cm.nm)[t]? ≠some p:=by
 induction L with
 |nil=>cases h
 |cons x r ih=>
  unfold fnd at h
  rw[List.find?_cons]at h
  split at h
  · rename_i hx
    injection h with h
    subst h
    exact⟨0,rfl,of_decide_eq_true hx,fun t ht=>by omega⟩
  · rename_i hx
    obtain⟨j,h1,h2,h3⟩:=ih h
    refine⟨j+1,by simpa using h1,h2,fun t ht=> ?_⟩
    match t with
    |0=>
     simp only[List.map_cons,List.getElem?_cons_zero,ne_eq,Option.some.injEq]
     exact of_decide_eq_false hx
    |t+1=>
     simp only[List.map_cons,List.getElem?_cons_succ]
     exact h3 t (by omega)
theorem fnd_none (h:fnd L p=none):p∉L.map fun q=>q.cm.nm:=fun hm=>by
 obtain⟨q,hq,e⟩:=List.mem_map.1 hm
 have:=List.find?_eq_none.1 h q hq
 simp[e]at this
theorem fnd_mem (h:fnd L p=some q):q∈L∧q.cm.nm=p:=by
 obtain⟨j,h1,h2,_⟩:=fnd_some h
 exact⟨List.mem_of_getElem? h1,h2⟩
theorem lk1 (h:fnd L p=some q):Ext PP (mkLk TMap ok) [.nm b,kV p] [(b,.mp (mpL L))] [] (lkV ok (.ag (dQ q)) true):=by
 obtain⟨j,h1,h2,h3⟩:=fnd_some h
 refine x_lk1 kT (mpL_nms L) (by rw[List.getElem?_map,h1,Option.map_some,h2]) h3 ?_
 unfold mpL
 rw[List.getElem?_map,h1,Option.map_some,h2]
theorem zvC_agg:∃ cs,zvC= .agg cs:=⟨zvC.cells,by kernel_rfl⟩
theorem lk0 (h:fnd L p=none):Ext PP (mkLk TMap ok) [.nm b,kV p] [(b,.mp (mpL L))] [] (lkV ok (.ag zlC) false):=
 x_lk0 kT zC_ok zvC_agg (mpL_nms L) (fnd_none h)
theorem mu_ (h:fnd L q.cm.nm=none):Ext PP (mkMu TMap) [.nm b,kV q.cm.nm,.ag (dQ q)] [(b,.mp (mpL L))] [(b,.mp (mpL (L++[q])))] .un:=
 x_mu kT (mpL_nms L) (fnd_none h) (by rfl) (by unfold mpL;rw[List.map_append];rfl)
/-- An archive's memory. -/
def arO (cs:List Int) (l:List (V×V)):List HO:=[.rw TI 1 (zs cs),.mp l,.bx TArc [.ow 0,.nm 1]]
def mkBd (T:TypeId) (xs:List Operand):Op:= .build T #[(0,xs.getD 0 (.tmp 0)),(1,xs.getD 1 (.tmp 0))]
theorem run_bd (ad:Option Addr) (n c g:Nat) (w:World):(Instr.build TArc #[(0,.slice ad n c),(1,.map (some g))]).run PP w= .ok (.agg #[.slice ad n c,.map (some g)]) w:=by kernel_rfl
/-- An archive is built. -/
theorem x_bd (b0 b1:Nat) (l:List (V×V)):Ext PP (mkBd TArc) [.ow b0,.nm b1] [(b1,.mp l)] [] (.ag [.ow b0,.nm b1]):=by
 intro B M h m w a o xs ho K hl hr hrd _
 obtain⟨x0,x1,rfl⟩:=two_of hl
 have h0:=hr 0 x0 _ rfl rfl
 have h1:=hr 1 x1 _ rfl rfl
 have g0:=h0
 have g1:=h1
 have hb:h b1= .mp l:=hrd (b1,.mp l) (List.mem_singleton.2 rfl)
 obtain⟨g,q1,_⟩:=K.mp b1 l hb
 simp only[mkBd,List.getD_cons_zero,List.getD_cons_succ]at ho
 have e1:a.eval x1= .map (some g):=by
  generalize a.eval x1=u at h1
  cases h1 with
  |nm _ _ v hm=>rw[q1]at hm;injection hm with hm;exact hm.symm
 generalize e0:a.eval x0=u at h0
 cases h0 with
 |ow _ _ ad n c hm=>
  rw[e0]at g0
  rw[e1]at g1
  refine Exec.val (u:= .agg #[.slice ad n c,.map (some g)]) (w':=w) ?_ (.same K (.ag _ _ _ rfl fun j x hx=> ?_))
  · simp[execOp,ho,e0,e1,run_bd]
  · match j with
    |0=>injection hx with hx;subst hx;exact g0
    |1=>injection hx with hx;subst hx;exact g1
    |j+2=>simp at hx
def mkBx (T:TypeId) (xs:List Operand):Op:= .box T (xs.getD 0 (.tmp 0))
theorem x_box {P:Program} {T j:Nat} {l:List V}:Ext P (mkBx T) [.ag l] [] [(j,.bx T l)] (.lp j 0):=by
 intro B M h m w a o xs ho K hl hr hrd hws
 obtain⟨x,rfl⟩:∃ x,xs=[x]:=by
  match xs,hl with
  |[x],_=>exact⟨x,rfl⟩
 obtain⟨hj1,hj2⟩:=hws j (by simp) (by simp)
 have hx:=hr 0 x _ rfl rfl
 simp only[mkBx,List.getD_cons_zero]at ho
 generalize hu:a.eval x=u at hx
 cases hx with
 |ag _ cs _ h1 h2=>
  refine Exec.val ?_ (new_bx K hj1 hj2 h1 h2)
  simp[execOp,ho,hu,Instr.box,newVar,newRow]
  rfl
theorem e_arname (c:CM):Pure PP 86 [.ag (dC c)] (.ag (E.nm c.nm)):=tr [] (by kernel_rfl)
theorem e_own (c:CM) (hl:c.refs.length≤1000):Pure PP 33 [.ag (dC c)] (.ag (dC c)):=by
 have h:=e_cloneN c.refs hl
 exact tr [cl h] (by kernel_rfl)
theorem e_newBad (n:Int) (h:n<1∨n>5):Pure PP 31 [ni n] (.tu [.k (.pointer none),ni 1]):=by
 by_cases h1:n<1
 · exact tr [ye (t:=decide (n<1)) (decide_eq_true h1),yt] (by kernel_rfl)
 · exact tr [na (t:=decide (n<1)) (decide_eq_false h1),ye (t:=decide (n>5)) (decide_eq_true (by omega))] (by kernel_rfl)
theorem e_new (h:1≤n∧n≤5):PureT PP 31 [] [ni n] (.io 0 (arO (List.replicate n 0) (mpL [])) (.tu [.lp 2 0,ni 0])):=by
 have h1:decide ((n:Int)<1)=false:=decide_eq_false (by omega)
 have h2:decide ((n:Int)>5)=false:=decide_eq_false (by omega)
 unfold arO
 rw[←zs_rep]
 exact trT [na h1,na h2,.mk n (by omega),.ext (some 12) _ _ _ _ _ (x_mm (T:=TMap) (j:=1)),.ext (some 13) _ _ _ _ _ (x_bd 0 1 (mpL [])),.ext (some 14) _ _ _ _ _ (x_box (T:=TArc) (j:=2) (l:=[.ow 0,.nm 1]))] (by kernel_rfl)
def mkNk (xs:List Operand):Op:= .nilCheck (xs.getD 0 (.tmp 0))
theorem x_nk {P:Program} (b i:Nat):Ext P mkNk [.lp b i] [] [] (.lp b i):=by
 intro B M h m w a o xs ho K hl hr _ _
 obtain⟨x,rfl⟩:∃ x,xs=[x]:=by
  match xs,hl with
  |[x],_=>exact⟨x,rfl⟩
 have hx:=hr 0 x _ rfl rfl
 have hx2:=hx
 generalize hu:a.eval x=u at hx hx2
 cases hx with
 |lp _ _ _ g hg=>
  refine Exec.val (u:= .pointer (some ⟨g,i,none⟩)) (w':=w) ?_ (.same K hx2)
  simp only[mkNk,List.getD_cons_zero]at ho
  simp[execOp,ho,hu]
/-- A pointer of the call's own is not nil. -/
def nk (t b:Nat):F_:= .ext (some t) mkNk [.lp b 0] [] [] (.lp b 0) (x_nk b 0)
/-- Is a name unknown? -/
theorem e_unk (L:List CQ) (p:Int×Int):PureT PP 95 (arO cs (mpL L)++[.bx TPA [.lp 2 0]]) [.ag (E.nm p),.lp 3 0] (.io 4 (arO cs (mpL L)++[.bx TPA [.lp 2 0]]) (bo (!(fnd L p).isSome))):=by
 cases h:fnd L p with
 |none=>
  have l0:=lk0 (ok:=true) (b:=1) h
  unfold arO
  generalize mpL L=M at*
  exact trT [nk 8 2,.ext (some 12) _ _ _ _ _ l0] (by kernel_rfl)
 |some q=>
  have l1:=lk1 (ok:=true) (b:=1) h
  unfold arO
  generalize mpL L=M at*
  exact trT [nk 8 2,.ext (some 12) _ _ _ _ _ l1] (by kernel_rfl)
def tickF (L:List CQ) (p:Int×Int):Int:=match fnd L p with
 |some q=>q.tick
 |none=>0
def lateB (L:List CQ) (c:CQ) (p:Int×Int):Bool:=decide (tickF L p≥c.tick)
theorem e_late (L:List CQ) (p:Int×Int):PureT PP 97 (arO cs (mpL L)++[.bx TPA [.lp 2 0],.bx TCl (dQ c)]) [.ag (E.nm p),.lp 3 0,.lp 4 0] (.io 5 (arO cs (mpL L)++[.bx TPA [.lp 2 0],.bx TCl (dQ c)]) (bo (lateB L c p))):=by
 unfold lateB tickF
 cases h:fnd L p with
 |none=>
  have l0:=lk0 (ok:=false) (b:=1) h
  unfold arO
  generalize mpL L=M at*
  exact trT [nk 6 2,.ext (some 10) _ _ _ _ _ l0] (by kernel_rfl)
 |some q=>
  have l1:=lk1 (ok:=false) (b:=1) h
  unfold arO
  generalize mpL L=M at*
  exact trT [nk 6 2,.ext (some 10) _ _ _ _ _ l1] (by kernel_rfl)
end
end Go.Proofs.YtfdfbenejkmnlaaGreatDoor.E.Ca
namespace Go.Proofs.YtfdfbenejkmnlaaGreatDoor.E.Ca
open Go.RowKit
set_option linter.unusedVariables false
set_option linter.unusedSimpArgs false
section
variable {L:List CQ} {p:Int×Int} {q r c:CQ} {b i j k n:Nat} {cs:List Int} {l:List (Int×Int)}
def unkB (L:List CQ) (p:Int×Int):Bool:= !(fnd L p).isSome
noncomputable abbrev fIN:Func:=fnOf PP 143
abbrev hU (cs:List Int) (L:List CQ):List HO:=[.rw TI 1 (zs cs),.mp (mpL L),.bx TArc [.ow 0,.nm 1],.bx TPA [.lp 2 0]]
abbrev hL (cs:List Int) (L:List CQ) (c:CQ):List HO:=[.rw TI 1 (zs cs),.mp (mpL L),.bx TArc [.ow 0,.nm 1],.bx TPA [.lp 2 0],.bx TCl (dQ c)]
theorem e_idxU (hl:l.length≤1000):PureT PP 143 (hU cs L) [.sl (rfs l),.cl 95 [.lp 3 0]] (.io 4 (hU cs L) (ni (fidx (unkB L) l))):=by
 have ll:((rfs l).length:Int)=(l.length:Int):=by rw[rfs_len]
 let X:Nat→St:=fun i=>at_ fIN [(0,.sl (rfs l)),(1,.cl 95 [.lp 3 0]),(7,ni l.length),(8,ni i)] (hU cs L)
 refine pfT (by kernel_rfl) (.to mo_ [] [0,1,7,8] [0,1,2,3] 4 [.eqv 7 (ni ((rfs l).length:Int)) (ni (l.length:Int)) (by rw[ll])] (td':=lp fIN 0) (σ':=X 0) ?_ (by kernel_rfl))
 refine Gd.loop X (fun i=>i≤l.length∧∀ t b,t<i→l[t]? =some b→unkB L b=false) (fun i=>l.length - i) ?_ 0 ⟨Nat.zero_le _,no_zero⟩
 intro i ⟨hi,hI⟩ ih
 by_cases h:i<l.length
 · obtain⟨a,ha,_⟩:=get_of h
   have lt:decide ((i:Int)<(l.length:Int))=true:=decide_eq_true (by omega)
   have u:=e_unk (cs:=cs) L a
   have s1:=rfs_at ha
   cases hb:unkB L a with
   |true=>
    rw[fidx_at hI ha hb]
    rw[show(!(fnd L a).isSome)=true from hb]at u
    exact fi [ye lt,.sel _ _ _ s1,.lend _ _ _ _ [0,1,2,3] u,yt] (by kernel_rfl) (by kernel_rfl)
   |false=>
    rw[show(!(fnd L a).isSome)=false from hb]at u
    exact .to mo_ [] [0,1,7,8] [0,1,2,3] 4 [ye lt,.sel _ _ _ s1,.lend _ _ _ _ [0,1,2,3] u,nf,inc 18 i (by omega)] (ih (i+1) ⟨h,no_step hI ha hb⟩ (by omega)) (by kernel_rfl)
 · have lt:decide ((i:Int)<(l.length:Int))=false:=decide_eq_false (by omega)
   rw[fidx_no hI h]
   exact fi [na lt] (by kernel_rfl) (by kernel_rfl)
theorem e_contU (hl:l.length≤1000):PureT PP 96 (hU cs L) [.sl (rfs l),.cl 95 [.lp 3 0]] (.io 4 (hU cs L) (bo (l.any (unkB L)))):=by
 have h:=e_idxU (cs:=cs) (L:=L) hl
 exact trT [.lend _ _ _ _ [0,1,2,3] h,.eqv 8 (bo (decide (fidx (unkB L) l≥0))) (bo (l.any (unkB L))) (by rw[fidx_any])] (by kernel_rfl)
theorem e_idxL (hl:l.length≤1000):PureT PP 143 (hL cs L c) [.sl (rfs l),.cl 97 [.lp 3 0,.lp 4 0]] (.io 5 (hL cs L c) (ni (fidx (lateB L c) l))):=by
 have ll:((rfs l).length:Int)=(l.length:Int):=by rw[rfs_len]
 let X:Nat→St:=fun i=>at_ fIN [(0,.sl (rfs l)),(1,.cl 97 [.lp 3 0,.lp 4 0]),(7,ni l.length),(8,ni i)] (hL cs L c)
 refine pfT (by kernel_rfl) (.to mo_ [] [0,1,7,8] [0,1,2,3,4] 5 [.eqv 7 (ni ((rfs l).length:Int)) (ni (l.length:Int)) (by rw[ll])] (td':=lp fIN 0) (σ':=X 0) ?_ (by kernel_rfl))
 refine Gd.loop X (fun i=>i≤l.length∧∀ t b,t<i→l[t]? =some b→lateB L c b=false) (fun i=>l.length - i) ?_ 0 ⟨Nat.zero_le _,no_zero⟩
 intro i ⟨hi,hI⟩ ih
 by_cases h:i<l.length
 · obtain⟨a,ha,_⟩:=get_of h
   have lt:decide ((i:Int)<(l.length:Int))=true:=decide_eq_true (by omega)
   have u:=e_late (cs:=cs) (c:=c) L a
   have s1:=rfs_at ha
   cases hb:lateB L c a with
   |true=>
    rw[fidx_at hI ha hb]
    rw[hb]at u
    exact fi [ye lt,.sel _ _ _ s1,.lend _ _ _ _ [0,1,2,3,4] u,yt] (by kernel_rfl) (by kernel_rfl)
   |false=>
    rw[hb]at u
    exact .to mo_ [] [0,1,7,8] [0,1,2,3,4] 5 [ye lt,.sel _ _ _ s1,.lend _ _ _ _ [0,1,2,3,4] u,nf,inc 18 i (by omega)] (ih (i+1) ⟨h,no_step hI ha hb⟩ (by omega)) (by kernel_rfl)
 · have lt:decide ((i:Int)<(l.length:Int))=false:=decide_eq_false (by omega)
   rw[fidx_no hI h]
   exact fi [na lt] (by kernel_rfl) (by kernel_rfl)
theorem e_contL (hl:l.length≤1000):PureT PP 96 (hL cs L c) [.sl (rfs l),.cl 97 [.lp 3 0,.lp 4 0]] (.io 5 (hL cs L c) (bo (l.any (lateB L c)))):=by
 have h:=e_idxL (cs:=cs) (L:=L) (c:=c) hl
 exact trT [.lend _ _ _ _ [0,1,2,3,4] h,.eqv 8 (bo (decide (fidx (lateB L c) l≥0))) (bo (l.any (lateB L c))) (by rw[fidx_any])] (by kernel_rfl)
end
end Go.Proofs.YtfdfbenejkmnlaaGreatDoor.E.Ca
namespace Go.Proofs.YtfdfbenejkmnlaaGreatDoor.E.Ca
open Go.RowKit
set_option linter.unusedVariables false
set_option linter.unusedSimpArgs false
section
variable {L:List CQ} {p:Int×Int} {q r c:CQ} {b s:Int} {i j k n:Nat}
theorem va_0 {c:CM} (h:validI c=0):c.refs.length≤16∧0≤c.by_∧c.by_<5∧0≤c.seq∧c.seq<200∧0≤c.tick∧c.tick≤1048576:=by
 have h1:decide (((rfs c.refs).length:Int)>16)=false:=by
  cases e:decide (((rfs c.refs).length:Int)>16)with
  |false=>rfl
  |true=>rw[v_long e]at h;cases h
 have h2:headB c=false:=by
  cases e:headB c with
  |false=>rfl
  |true=>rw[v_head h1 e]at h;cases h
 have h3:=of_decide_eq_false h1
 rw[rfs_len]at h3
 unfold headB possB CM.nm at h2
 simp only[Bool.or_eq_false_iff,Bool.not_eq_false',Bool.and_eq_true,decide_eq_true_eq,decide_eq_false_iff_not]at h2
 obtain⟨⟨⟨⟨⟨⟨⟨⟨a1,a2⟩,a3⟩,a4⟩,a5⟩,a6⟩,_⟩,_⟩,_⟩:=h2
 exact⟨by omega,by omega,by omega,by omega,by omega,by omega,by omega⟩
/-- The claims of a museum. -/
def chn (L:List CQ) (b:Int):List CQ:=L.filter fun q=>decide (q.by_=b)
def cnts (n:Nat) (L:List CQ):List Int:=(List.range n).map fun(b:Nat)=>((chn L b).length:Int)
theorem chn_mem:q∈chn L b↔q∈L∧q.by_=b:=by unfold chn;rw[List.mem_filter,decide_eq_true_eq]
theorem chn_app (L:List CQ) (c:CQ) (b:Int):chn (L++[c]) b=if c.by_=b then chn L b++[c]else chn L b:=by
 unfold chn
 rw[List.filter_append]
 by_cases h:c.by_=b
 · rw[if_pos h];simp[h]
 · rw[if_neg h];simp[h]
theorem chn_le (L:List CQ) (b:Int):(chn L b).length≤L.length:=List.length_filter_le _ _
structure Arc (n:Nat) (L:List CQ):Prop where
 n1:1≤n∧n≤5
 len:L.length≤200
 sq:∀ q∈L,Sq q
 fb:∀ q∈L,FBits 100 q.cm.fit
 va:∀ q∈L,validI q.cm=0
 by_:∀ q∈L,q.by_<n
 seq:∀ (b:Int) (i:Nat) (q:CQ),(chn L b)[i]? =some q→q.seq=i
 tk:∀ (b:Int) (i j:Nat) (q r:CQ),(chn L b)[i]? =some q→(chn L b)[j]? =some r→i<j→q.tick<r.tick
 rf:∀ (i:Nat) (q:CQ),L[i]? =some q→∀ p∈q.refs,∃ r∈L.take i,r.cm.nm=p∧r.tick<q.tick
theorem Arc.nil (h:1≤n∧n≤5):Arc n []:=⟨h,Nat.zero_le _,fun q h=>(by cases h),fun q h=>(by cases h),fun q h=>(by cases h),fun q h=>(by cases h),fun b i q h=>(by simp[chn]at h),fun b i j q r h=>(by simp[chn]at h),fun i q h=>(by simp at h)⟩
theorem Arc.at_ (h:Arc n L) (hq:q∈L):(chn L q.by_)[q.seq.toNat]? =some q∧0≤q.seq:=by
 obtain⟨i,hi⟩:=List.getElem?_of_mem (chn_mem.2 ⟨hq,rfl⟩)
 have:=h.seq _ _ _ hi
 exact⟨by rw[this,Int.toNat_natCast];exact hi,by omega⟩
theorem Arc.one (h:Arc n L) (hq:q∈L) (hr:r∈L) (e:q.cm.nm=r.cm.nm):q=r:=by
 have h1:=(h.at_ hq).1
 have h2:=(h.at_ hr).1
 have e1:q.by_=r.by_:=congrArg Prod.fst e
 have e2:q.seq=r.seq:=congrArg Prod.snd e
 rw[e1,e2,h2]at h1
 injection h1 with h1
 exact h1.symm
theorem fnd_of (h:Arc n L) (hq:q∈L):fnd L q.cm.nm=some q:=by
 cases e:fnd L q.cm.nm with
 |none=>exact absurd (List.mem_map.2 ⟨q,hq,rfl⟩) (fnd_none e)
 |some r=>
  obtain⟨h1,h2⟩:=fnd_mem e
  rw[h.one h1 hq h2]
theorem fnd_chn (h:Arc n L) (hk:(chn L b)[k]? =some q):fnd L (b,(k:Int))=some q:=by
 obtain⟨h1,h2⟩:=chn_mem.1 (List.mem_of_getElem? hk)
 have h3:=h.seq _ _ _ hk
 have e:q.cm.nm=(b,(k:Int)):=by
  show(q.by_,q.seq)=_
  rw[h2,h3]
 rw[←e]
 exact fnd_of h h1
theorem fnd_new (h:Arc n L) (hs:c.seq=((chn L c.by_).length:Int)):fnd L c.cm.nm=none:=by
 cases e:fnd L c.cm.nm with
 |none=>rfl
 |some r=>
  obtain⟨h1,h2⟩:=fnd_mem e
  have h3:=(h.at_ h1).1
  have e1:r.by_=c.by_:=congrArg Prod.fst h2
  have e2:r.seq=c.seq:=congrArg Prod.snd h2
  rw[e1,e2,hs,Int.toNat_natCast,List.getElem?_eq_none (Nat.le_refl _)]at h3
  cases h3
theorem cnts_len:(cnts n L).length=n:=by unfold cnts;rw[List.length_map,List.length_range]
theorem cnts_at (h:k<n):(zs (cnts n L))[k]? =some [ni ((chn L (k:Int)).length:Int)]:=by
 unfold zs cnts
 rw[List.getElem?_map,List.getElem?_map,List.getElem?_range h]
 rfl
theorem cnts_add (hk:c.by_=(k:Int)) (h:k<n):(cnts n L).set k (((chn L (k:Int)).length+1:Nat):Int)=cnts n (L++[c]):=by
 unfold cnts
 apply List.ext_getElem?
 intro j
 rw[List.getElem?_set,List.length_map,List.length_range,List.getElem?_map,List.getElem?_map]
 by_cases hjk:k=j
 · subst hjk
   rw[if_pos rfl,if_pos h,List.getElem?_range h,Option.map_some,chn_app,if_pos hk,List.length_append]
   rfl
 · rw[if_neg hjk]
   by_cases hj:j<n
   · rw[List.getElem?_range hj,Option.map_some,Option.map_some,chn_app,if_neg (by rw[hk];omega)]
   · rw[List.getElem?_eq_none (by rw[List.length_range];omega)];rfl
theorem cnts_nil (n:Nat):List.replicate n 0=cnts n []:=by
 unfold cnts
 apply List.ext_getElem?
 intro j
 rw[List.getElem?_replicate,List.getElem?_map]
 by_cases hj:j<n
 · rw[if_pos hj,List.getElem?_range hj];rfl
 · rw[if_neg hj,List.getElem?_eq_none (by rw[List.length_range];omega)];rfl
open Classical in
/-- The error with which a claim is not taken. -/
noncomputable def tkE (n:Nat) (L:List CQ) (c:CQ):Int:=
 if validI c.cm≠0 then validI c.cm else if(n:Int)≤c.by_ then 1 else match fnd L c.cm.nm with
 |some o=>if o=c then 0 else 7
 |none=>if c.seq≠((chn L c.by_).length:Int)∨c.refs.any (unkB L)=true then 10 else if c.refs.any (lateB L c)=true∨(0<c.seq∧lateB L c (c.by_,c.seq - 1)=true)then 5 else if 200≤L.length then 4 else 0
noncomputable def tkF (n:Nat) (L:List CQ) (c:CQ):Bool:=decide (tkE n L c=0)&&(fnd L c.cm.nm).isNone
noncomputable def tkL (n:Nat) (L:List CQ) (c:CQ):List CQ:=if tkF n L c then L++[c]else L
theorem Arc.add (h : Arc n L) (hc : Sq c) (hf : FBits 100 c.cm.fit) (hv : validI c.cm = 0) (hb : c.by_ < n) (hs : c.seq = ((chn L c.by_).length : Int)) (hu : c.refs.any (unkB L) = false) (hl : c.refs.any (lateB L c) = false) (hp : 0 < c.seq → lateB L c (c.by_, c.seq - 1) = false) (h2 : L.length < 200) : Arc n (L ++ [c]) := by
 have all:∀ {P:CQ→Prop},(∀ q∈L,P q)→P c→∀ q∈L++[c],P q:=fun h1 h2 q hq=>by
  rcases List.mem_append.1 hq with hq|hq
  · exact h1 q hq
  · rw[List.mem_singleton]at hq;subst hq;exact h2
 have v:=va_0 hv
 have cat : ∀ b i q, (chn (L ++ [c]) b)[i]? = some q → (chn L b)[i]? = some q ∨ (c.by_ = b ∧ i = (chn L b).length ∧ q = c) := fun b i q hi => by
  rw[chn_app]at hi
  split at hi
  · rename_i e
    rcases Nat.lt_or_ge i (chn L b).length with g|g
    · rw[List.getElem?_append_left g]at hi;exact .inl hi
    · have h3:=(List.getElem?_eq_some_iff.1 hi).1
      rw[List.length_append]at h3
      simp only[List.length_cons,List.length_nil]at h3
      have:i=(chn L b).length:=by omega
      subst this
      rw[List.getElem?_append_right (Nat.le_refl _),Nat.sub_self]at hi
      injection hi with hi
      exact .inr ⟨e,rfl,hi.symm⟩
  · exact .inl hi
 refine⟨h.n1,by rw[List.length_append];simp;omega,all h.sq hc,all h.fb hf,all h.va hv,all h.by_ hb,fun b i q hi=> ?_,fun b i j q r hi hj hij=> ?_,fun i q hi p hp2=> ?_⟩
 · rcases cat b i q hi with h3|⟨e,rfl,rfl⟩
   · exact h.seq b i q h3
   · rw[hs,e]
 · rcases cat b j r hj with h4|⟨e,rfl,rfl⟩
   · rcases cat b i q hi with h3|⟨e,rfl,rfl⟩
     · exact h.tk b i j q r h3 h4 hij
     · have:=(List.getElem?_eq_some_iff.1 h4).1;omega
   · rcases cat b i q hi with h3|⟨_,rfl,_⟩
     · -- the claim before
       have hlen:0<(chn L b).length:=by omega
       have hl2:(chn L b)[(chn L b).length - 1]? =some ((chn L b)[(chn L b).length - 1]'(by omega)):=List.getElem?_eq_getElem (by omega)
       generalize (chn L b)[(chn L b).length - 1]'(by omega)=x at hl2
       have h5:=hp (by rw[hs,e];omega)
       have h6:fnd L (r.by_,r.seq - 1)=some x:=by
        rw[hs,e,show(((chn L b).length:Int) - 1)=(((chn L b).length - 1:Nat):Int)by omega]
        exact fnd_chn h hl2
       unfold lateB tickF at h5
       rw[h6]at h5
       have h7:=of_decide_eq_false h5
       simp only at h7
       rcases Nat.lt_or_eq_of_le (show i≤(chn L b).length - 1 by omega)with h8|h8
       · have:=h.tk b i _ q x h3 hl2 h8
         omega
       · subst h8
         rw[h3]at hl2
         injection hl2 with hl2
         subst hl2
         omega
     · omega
 · rcases Nat.lt_or_ge i L.length with g|g
   · rw[List.getElem?_append_left g]at hi
     obtain⟨r,h3,h4⟩:=h.rf i q hi p hp2
     exact⟨r,by rw[List.take_append_of_le_length (by omega)];exact h3,h4⟩
   · have h3:=(List.getElem?_eq_some_iff.1 hi).1
     rw[List.length_append]at h3
     simp only[List.length_cons,List.length_nil]at h3
     have:i=L.length:=by omega
     subst this
     rw[List.getElem?_append_right (Nat.le_refl _),Nat.sub_self]at hi
     injection hi with hi
     subst hi
     have u:=List.any_eq_false.1 hu p hp2
     have t:=List.any_eq_false.1 hl p hp2
     cases e:fnd L p with
     |none=>unfold unkB at u;rw[e]at u;exact absurd rfl u
     |some r=>
      obtain⟨h5,h6⟩:=fnd_mem e
      refine⟨r,by rw[List.take_left];exact h5,h6, ?_⟩
      unfold lateB tickF at t
      rw[e]at t
      simp only[decide_eq_true_eq]at t
      omega
theorem tkL_arc (h:Arc n L) (hc:Sq c) (hf:FBits 100 c.cm.fit):Arc n (tkL n L c):=by
 unfold tkL
 split
 · rename_i ht
   unfold tkF at ht
   simp only[Bool.and_eq_true,decide_eq_true_eq,Option.isNone_iff_eq_none]at ht
   obtain⟨h1,h2⟩:=ht
   unfold tkE at h1
   rw[h2]at h1
   split at h1
   · rename_i g;exact absurd h1 g
   rename_i g1
   split at h1
   · cases h1
   rename_i g2
   simp only at h1
   split at h1
   · cases h1
   rename_i g3
   split at h1
   · cases h1
   rename_i g4
   split at h1
   · cases h1
   rename_i g5
   simp only[not_or,Bool.not_eq_true]at g3 g4
   refine h.add hc hf (by simpa using g1) (by omega) (by simpa using g3.1) g3.2 g4.1 (fun h0=> ?_) (by omega)
   have:=g4.2
   cases e:lateB L c (c.by_,c.seq - 1)with
   |false=>rfl
   |true=>exact absurd ⟨h0,e⟩ this
 · exact h
end
end Go.Proofs.YtfdfbenejkmnlaaGreatDoor.E.Ca
