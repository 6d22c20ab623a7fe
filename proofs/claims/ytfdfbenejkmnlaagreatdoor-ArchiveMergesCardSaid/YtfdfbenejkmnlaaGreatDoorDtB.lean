/-
 THE REFERENCE'S Sort of claims, plain: a claim is put into its place; what comes out is what claim.Sort returns.
-/
import Derived.Test.YtfdfbenejkmnlaaGreatDoorDmL
import Derived.Test.YtfdfbenejkmnlaaGreatDoorDmD
namespace Go.Proofs.YtfdfbenejkmnlaaGreatDoor.E.Ca
open Go.RowKit Hs
set_option linter.unusedVariables false
set_option linter.unusedSimpArgs false
section
variable {L M C A l:List CQ} {p:Int×Int} {q r c o:CQ} {b:Int} {i j k m n:Nat} {cs:List Int} {t:Int} {H:List (Int×DG)} {x:Int×DG} {by_:Int}
theorem w_step (ha:Arc n L) (hl:H.length=n) (hb:H.any badH=false) {W:CQ→Bool}:∀ d k,k+d=n→
  ((∃ j,k≤j∧j<n∧oddH L j (H.getD j (0,zD))=true)→GW (wE (cnts n L) L 9) (lp fWt 0) (wX (cnts n L) L H k))∧
  ((∀ j,k≤j→j<n→oddH L j (H.getD j (0,zD))=false)→GW (wR (cnts n L) L (kpt (knwn H) (sorted L))) (lp fWt 0) (wX (cnts n L) L H k)):=by
 have n1:=ha.n1
 intro d
 induction d with
 |zero=>
  intro k hk
  have:k=n:=by omega
  subst this
  refine⟨fun⟨j,h1,h2,_⟩=>absurd h1 (by omega),fun _=> ?_⟩
  have cl_:=e_claims ha (M:=L) fun p=>rfl
  have g:=w_end (H:=H) cl_ (fun q hq=>by
   have hq:=sorted_sub hq
   have:=va_0 (ha.va q hq)
   exact⟨this.2.1,by rw[hl];exact ha.by_ q hq⟩) (by have:=sorted_le L;have:=ha.len;omega)
  rw[hl]at g
  exact g
 |succ d ih=>
  intro k hk
  have hkn:k<n:=by omega
  obtain⟨ih1,ih2⟩:=ih (k+1) (by omega)
  have hx:H[k]? =some (H.getD k (0,zD)):=getD_lt (by omega)
  have s1:=cnts_at (L:=L) hkn
  have nb:badH (H.getD k (0,zD))=false:=by
   have:=List.any_eq_false.1 hb _ (List.mem_of_getElem? hx)
   simpa using this
  unfold badH at nb
  rw[Bool.or_eq_false_iff,decide_eq_false_iff_not,decide_eq_false_iff_not]at nb
  by_cases h:(H.getD k (0,zD)).1≤((chn L (k:Int)).length:Int)
  · obtain⟨i,hi⟩:∃ i:Nat,(H.getD k (0,zD)).1=(i:Int):=⟨(H.getD k (0,zD)).1.toNat,by omega⟩
    have hC:((chn L (k:Int)).take i).length=i:=by rw[List.length_take];omega
    have ch:=e_chain (cs:=cnts n L) (M:=L) (b:=(k:Int)) (C:=(chn L (k:Int)).take i) (fun j q hq=>by
     rw[List.getElem?_take]at hq
     split at hq
     · exact fnd_chn ha hq
     · cases hq) (by omega)
    have sm:=e_sumA (L:=(chn L (k:Int)).take i) (fun q hq=>chn_sq ha q (List.mem_of_mem_take hq)) (by omega)
    have ho:oddH L k (H.getD k (0,zD))= !dgE (sumW ((chn L (k:Int)).take i)) (H.getD k (0,zD)).2:=by
     unfold oddH
     rw[decide_eq_true h,Bool.true_and,hi,Int.toNat_natCast]
    cases hd:dgE (sumW ((chn L (k:Int)).take i)) (H.getD k (0,zD)).2 with
    |true=>
     rw[hd]at ho
     refine⟨fun⟨j,h1,h2,h3⟩=> ?_,fun h1=> ?_⟩
     · have hjk:j≠k:=fun e=>by subst e;rw[ho]at h3;cases h3
       exact w_same (D:=(hA_ (cnts n L) L,.tu [.nl,ni 9])) hx (by omega) s1 h hi hC ch sm hd (ih1 ⟨j,by omega,h2,h3⟩)
     · exact w_same (D:=(hA_ (cnts n L) L,.tu [slQ (kpt (knwn H) (sorted L)),ni 0])) hx (by omega) s1 h hi hC ch sm hd (ih2 fun j h2 h3=>h1 j (by omega) h3)
    |false=>
     rw[hd]at ho
     refine⟨fun _=>w_odd hx (by omega) s1 h hi hC ch sm hd,fun h1=> ?_⟩
     have:=h1 k (Nat.le_refl _) hkn
     rw[ho]at this
     cases this
  · have ho:oddH L k (H.getD k (0,zD))=false:=by unfold oddH;rw[decide_eq_false h];rfl
    refine⟨fun⟨j,h1,h2,h3⟩=> ?_,fun h1=> ?_⟩
    · have hjk:j≠k:=fun e=>by subst e;rw[ho]at h3;cases h3
      exact w_more (D:=(hA_ (cnts n L) L,.tu [.nl,ni 9])) hx (by omega) s1 h (ih1 ⟨j,by omega,h2,h3⟩)
    · exact w_more (D:=(hA_ (cnts n L) L,.tu [slQ (kpt (knwn H) (sorted L)),ni 0])) hx (by omega) s1 h (ih2 fun j h2 h3=>h1 j (by omega) h3)
theorem e_want0 (ha:Arc n L) (hn:H.length≤100000) (h:wantE n L H=0):PW (cnts n L) L H (wR (cnts n L) L (kpt (knwn H) (sorted L))):=by
 unfold wantE at h
 split at h
 · cases h
 rename_i h1
 split at h
 · cases h
 rename_i h2
 simp only[not_or,Decidable.not_not,Bool.not_eq_true]at h1 h2
 obtain⟨hl,hb⟩:=h1
 have g:=(w_step ha hl hb (W:=fun _=>true) n 0 (by omega)).2 fun j _ hj=>by
  have:=List.any_eq_false.1 h2 j (List.mem_range.2 hj)
  simpa using this
 exact w_go (D:=(hA_ (cnts n L) L,.tu [slQ (kpt (knwn H) (sorted L)),ni 0])) hn (by rw[zs_cnts,hl];simp) hb g
theorem e_wantE (ha:Arc n L) (hn:H.length≤100000) (h:wantE n L H≠0):PW (cnts n L) L H (wE (cnts n L) L (wantE n L H)):=by
 by_cases hl:H.length=n
 · cases hb:H.any badH with
   |true=>
    have e:wantE n L H=1:=if_pos (.inr hb)
    rw[e]
    exact w_bad hn (by rw[zs_cnts,hl];simp) hb
   |false=>
    have h1:¬(H.length≠n∨H.any badH=true):=fun g=>g.elim (fun g=>g hl) fun g=>by rw[hb]at g;cases g
    have e1:wantE n L H=if((List.range n).any fun k=>oddH L k (H.getD k (0,zD)))=true then 9 else 0:=if_neg h1
    cases h2:(List.range n).any fun k=>oddH L k (H.getD k (0,zD))with
    |true=>
     rw[h2]at e1
     have e:wantE n L H=9:=e1
     obtain⟨j,hj,ho⟩:=List.any_eq_true.1 h2
     have g:=(w_step ha hl hb (W:=fun _=>true) n 0 (by omega)).1 ⟨j,Nat.zero_le _,List.mem_range.1 hj,ho⟩
     rw[e]
     exact w_go (D:=(hA_ (cnts n L) L,.tu [.nl,ni 9])) hn (by rw[zs_cnts,hl];simp) hb g
    |false=>
     rw[h2]at e1
     exact absurd e1 h
 · have e:wantE n L H=1:=if_pos (.inl hl)
   rw[e]
   exact w_len (by
    rw[zs_cnts]
    have:(H.length:Int)≠(n:Int):=by omega
    simpa using this)
/-- Check. -/
def prvT (l:List CQ) (i:Nat):Int:=if i=0 then -1 else match l[i - 1]? with
 |some q=>q.tick
 |none=> -1
noncomputable def badC (l:List CQ) (by_:Int) (i:Nat) (q:CQ):Bool:=decide (validI q.cm≠0)||(!decide (q.cm.nm=(by_,(i:Int)))||decide (q.tick≤prvT l i))
noncomputable def chkE (l:List CQ) (h:Int×DG) (by_:Int):Int:=
 if by_<0∨5≤by_ then 1 else if(l.zipIdx.any fun y=>badC l by_ y.2 y.1)=true then 1 else if h.1≠(l.length:Int)∨dgE h.2 (sumW l)=false then 9 else 0
noncomputable abbrev fCk2:Func:=fnOf PP 53
noncomputable def ckS (l:List CQ) (h:Int×DG) (by_ t:Int) (i:Nat):St:=at_ fCk2 [(0,slQ l),(2,ni by_),(4,.lp 0 0),(7,ni t),(16,slQ l),(17,ni l.length),(18,ni i)] [.bx THd (hdV h)]
abbrev PC (l:List CQ) (h:Int×DG) (by_ e:Int):Prop:=Pure PP 53 [slQ l,.ag (hdV h),ni by_] (ni e)
abbrev GC_ (e:Int) (td:List Item) (σ:St):Prop:=Gd PP 53 (ni e) td σ
theorem ckq_lo (h:by_<0):PC l x by_ 1:=tr [ye (t:=decide (by_<0)) (decide_eq_true h),yt] (by kernel_rfl)
theorem ckq_hi (h0:¬by_<0) (h:5≤by_):PC l x by_ 1:=tr [na (t:=decide (by_<0)) (decide_eq_false h0),ye (t:=decide (by_≥5)) (decide_eq_true h)] (by kernel_rfl)
theorem ckq_go {e:Int} (h0:¬by_<0) (h:¬5≤by_) (g:GC_ e (lp fCk2 0) (ckS l x by_ (prvT l 0) 0)):PC l x by_ e:=by
 have ln:ni ((l.map dQ).length:Int)=ni (l.length:Int):=by rw[List.length_map]
 unfold ckS slQ at g
 exact pf (by kernel_rfl) (.to mo_ [] [0,2,4,7,16,17,18] [0] 1 [na (t:=decide (by_<0)) (decide_eq_false h0),na (t:=decide (by_≥5)) (decide_eq_false h),.eqv 17 _ _ ln] g (by kernel_rfl))
theorem ckq_end (hl:∀ q∈l,Sq q) (hn:l.length≤100000):GC_ (if x.1≠(l.length:Int)∨dgE x.2 (sumW l)=false then 9 else 0) (lp fCk2 0) (ckS l x by_ t l.length):=by
 have lt:decide ((l.length:Int)<(l.length:Int))=false:=decide_eq_false (by omega)
 have ln:ni ((l.map dQ).length:Int)=ni (l.length:Int):=by rw[List.length_map]
 have sm:=e_sumA hl hn
 have eq:=e_eqD x.2 (sumW l)
 by_cases h1:x.1≠(l.length:Int)
 · rw[if_pos (.inl h1)]
   have ne:(x.1 != (l.length:Int))=true:=by simpa using h1
   unfold ckS slQ
   exact fi [na lt,.eqv 46 _ _ ln,ye ne,yt] (by kernel_rfl) (by kernel_rfl)
 · have h1:=Decidable.not_not.1 h1
   have ne:(x.1 != (l.length:Int))=false:=by rw[h1];simp
   cases hd:dgE x.2 (sumW l)with
   |true=>
    rw[if_neg (by simp[h1])]
    rw[hd]at eq
    unfold ckS
    unfold slQ at*
    generalize sumW l=W at*
    exact fi [na lt,.eqv 46 _ _ ln,na ne,cl sm,.eqa _ _ _ _ eq,nf] (by kernel_rfl) (by kernel_rfl)
   |false=>
    rw[if_pos (.inr rfl)]
    rw[hd]at eq
    unfold ckS
    unfold slQ at*
    generalize sumW l=W at*
    exact fi [na lt,.eqv 46 _ _ ln,na ne,cl sm,.eqa _ _ _ _ eq,yt] (by kernel_rfl) (by kernel_rfl)
theorem ckq_in (hq:l[i]? =some q) (hf:FBits 100 q.cm.fit) (hn:l.length≤100000) {e:Int} (h1:badC l by_ i q=true→e=1) (h0:badC l by_ i q=false→GC_ e (lp fCk2 0) (ckS l x by_ q.tick (i+1))):GC_ e (lp fCk2 0) (ckS l x by_ (prvT l i) i):=by
 have hil:=(List.getElem?_eq_some_iff.1 hq).1
 have lt:decide ((i:Int)<(l.length:Int))=true:=decide_eq_true (by omega)
 have s1:=dQ_at hq
 have hv:=e_cvalid (k:=100) (c:=q.cm) hf (by omega)
 have nm:=e_arname q.cm
 unfold badC at h1 h0
 generalize prvT l i=t at*
 by_cases hv0:validI q.cm≠0
 · have e1:=h1 (by rw[decide_eq_true hv0];rfl)
   subst e1
   have ne:(validI q.cm != 0)=true:=by simpa using hv0
   generalize validI q.cm=v at*
   unfold ckS slQ
   exact fi [ye lt,.sel _ _ _ s1,cl hv,ye ne,yt,yt] (by kernel_rfl) (by kernel_rfl)
 have hv1:=Decidable.not_not.1 hv0
 rw[hv1]at hv
 rw[decide_eq_false hv0,Bool.false_or]at h1 h0
 cases hm:decide (q.cm.nm=(by_,(i:Int)))with
 |false=>
  have e1:=h1 (by rw[hm];rfl)
  subst e1
  have eq:=fEq q.cm.nm (by_,(i:Int))
  have f:F_:= .eqa 54 (E.nm q.cm.nm) (E.nm (by_,(i:Int))) false (by rw[←hm];exact nm_dec q.cm.nm (by_,(i:Int))▸eqN q.cm.nm (by_,(i:Int)))
  unfold ckS slQ
  exact fi [ye lt,.sel _ _ _ s1,cl hv,nf,cl nm,.eqa 54 (E.nm q.cm.nm) (E.nm (by_,(i:Int))) false (by rw[←hm];exact nm_dec q.cm.nm (by_,(i:Int))▸eqN q.cm.nm (by_,(i:Int))),yt,yt] (by kernel_rfl) (by kernel_rfl)
 |true=>
  rw[hm,Bool.not_true,Bool.false_or]at h1 h0
  cases ht:decide (q.tick≤t)with
  |true=>
   have e1:=h1 ht
   subst e1
   unfold ckS slQ
   exact fi [ye lt,.sel _ _ _ s1,cl hv,nf,cl nm,.eqa 54 (E.nm q.cm.nm) (E.nm (by_,(i:Int))) true (by rw[←hm];exact nm_dec q.cm.nm (by_,(i:Int))▸eqN q.cm.nm (by_,(i:Int))),nf,ye (t:=decide (q.tick≤t)) ht] (by kernel_rfl) (by kernel_rfl)
  |false=>
   have g:=h0 ht
   unfold ckS slQ at g⊢
   exact .to mo_ [] [0,2,4,7,16,17,18] [0] 1 [ye lt,.sel _ _ _ s1,cl hv,nf,cl nm,.eqa 54 (E.nm q.cm.nm) (E.nm (by_,(i:Int))) true (by rw[←hm];exact nm_dec q.cm.nm (by_,(i:Int))▸eqN q.cm.nm (by_,(i:Int))),nf,na (t:=decide (q.tick≤t)) ht,inc 42 i (by omega)] g (by kernel_rfl)
theorem e_check (hl : ∀ q ∈ l, Sq q ∧ FBits 100 q.cm.fit) (hn : l.length ≤ 100000) : PC l x by_ (chkE l x by_) := by
 by_cases h0:by_<0
 · have e:chkE l x by_=1:=if_pos (.inl h0)
   rw[e];exact ckq_lo h0
 by_cases h5:5≤by_
 · have e:chkE l x by_=1:=if_pos (.inr h5)
   rw[e];exact ckq_hi h0 h5
 refine ckq_go h0 h5 ?_
 have e0:chkE l x by_=if(l.zipIdx.any fun y=>badC l by_ y.2 y.1)=true then 1 else if x.1≠(l.length:Int)∨dgE x.2 (sumW l)=false then 9 else 0:=if_neg (by omega)
 rw[e0]
 have main : ∀ d i, i + d = l.length → (∀ j q, j < i → l[j]? = some q → badC l by_ j q = false) → GC_ (if (l.zipIdx.any fun y => badC l by_ y.2 y.1) = true then 1 else if x.1 ≠ (l.length : Int) ∨ dgE x.2 (sumW l) = false then 9 else 0) (lp fCk2 0) (ckS l x by_ (prvT l i) i) := by
  intro d
  induction d with
  |zero=>
   intro i hi hb
   have:i=l.length:=by omega
   subst this
   rw[if_neg (by
    simp only[Bool.not_eq_true,List.any_eq_false]
    rintro ⟨q,j⟩ hm
    have:=List.mem_zipIdx hm
    simp only[Nat.zero_add,Nat.sub_zero]at this
    obtain⟨_,h2,h3⟩:=this
    have h4:=hb j q h2 (by rw[List.getElem?_eq_getElem h2,h3])
    simp[h4])]
   exact ckq_end (fun q hq=>(hl q hq).1) hn
  |succ d ih=>
   intro i hi hb
   obtain⟨q,hq⟩:∃ q,l[i]? =some q:=⟨_,List.getElem?_eq_getElem (by omega)⟩
   refine ckq_in hq (hl q (List.mem_of_getElem? hq)).2 hn (fun h=>if_pos ?_) (fun h=> ?_)
   · rw[List.any_eq_true]
     refine⟨(q,i), ?_,h⟩
     rw[List.mem_zipIdx_iff_getElem?]
     exact hq
   · have g:=ih (i+1) (by omega) fun j r hj hr=>by
      rcases Nat.lt_or_ge j i with h2|h2
      · exact hb j r h2 hr
      · have:j=i:=by omega
        subst this
        rw[hq]at hr
        injection hr with hr
        subst hr
        exact h
     have e:prvT l (i+1)=q.tick:=by
      unfold prvT
      rw[if_neg (by omega),Nat.add_sub_cancel,hq]
     rw[e]at g
     exact g
 exact main l.length 0 (by omega) fun j q hj _=>absurd hj (by omega)
end
end Go.Proofs.YtfdfbenejkmnlaaGreatDoor.E.Ca
namespace Go.Proofs.YtfdfbenejkmnlaaGreatDoor.E.Ca
open Go.RowKit
set_option linter.unusedVariables false
set_option linter.unusedSimpArgs false
section
variable {q r:CQ} {L O:List CQ} {i k n:Nat} {p:Int×Int} {a b:List UInt8}
abbrev fQ (p:Int×Int) (L:List CQ):Int:=fidx (fun q:CQ=>decide (q.cm.nm=p)) L
noncomputable abbrev fRF:Func:=fnOf PP 62
theorem nm_and (c:CM) (p:Int×Int):(c.nm.1==p.1&&c.nm.2==p.2)=decide (c.nm=p):=by
 rw[Bool.eq_iff_iff]
 simp only[Bool.and_eq_true,beq_iff_eq,decide_eq_true_eq]
 exact⟨fun h=>Prod.ext h.1 h.2,fun h=>by rw[h];exact⟨rfl,rfl⟩⟩
theorem e_rfind (L:List CQ) (p:Int×Int):Pure PP 62 [slQ L,.ag (E.nm p)] (ni (fQ p L)):=by
 refine .len 0 (l:=L.map dQ) (by kernel_rfl) rfl fun hm=> ?_
 rw[List.length_map]at hm
 unfold maxLen at hm
 let X:Nat→St:=fun k=>at_ fRF [(0,slQ L),(3,.lp 0 0),(5,ni k)] [.bx 54 (E.nm p)]
 refine pf (by kernel_rfl) (.to mo_ [] [0,3,5] [0] 1 [] (td':=lp fRF 0) (σ':=X 0) ?_ (by kernel_rfl))
 refine Gd.loop X (fun k=>k≤L.length∧∀ t b,t<k→L[t]? =some b→decide (b.cm.nm=p)=false) (fun k=>L.length - k) ?_ 0 ⟨Nat.zero_le _,no_zero⟩
 intro k ⟨hk,hI⟩ ih
 by_cases h:k<L.length
 · have lt:decide ((k:Int)<((L.map dQ).length:Int))=true:=decide_eq_true (by rw[List.length_map];omega)
   obtain⟨q,hq⟩:∃ q,L[k]? =some q:=⟨_,List.getElem?_eq_getElem h⟩
   have s1:=dQ_at hq
   have ha:=nm_and q.cm p
   cases hb:decide (q.cm.nm=p)with
   |true=>
    rw[show fQ p L=(k:Int)from fidx_at hI hq hb]
    rw[hb,Bool.and_eq_true]at ha
    obtain⟨h1,h2⟩:=ha
    exact fi [ye lt,.sel _ _ _ s1,ye (t:=q.cm.nm.1==p.1) h1,.sel _ _ _ s1,ye (t:=q.cm.nm.2==p.2) h2] (by kernel_rfl) (by kernel_rfl)
   |false=>
    rw[hb]at ha
    have nx:=ih (k+1) ⟨h,no_step hI hq hb⟩ (by omega)
    cases h1:(q.cm.nm.1==p.1)with
    |true=>
     rw[h1,Bool.true_and]at ha
     exact .to mo_ [] [0,3,5] [0] 1 [ye lt,.sel _ _ _ s1,ye (t:=q.cm.nm.1==p.1) h1,.sel _ _ _ s1,na (t:=q.cm.nm.2==p.2) ha,inc 11 k (by omega)] nx (by kernel_rfl)
    |false=>
     exact .to mo_ [] [0,3,5] [0] 1 [ye lt,.sel _ _ _ s1,na (t:=q.cm.nm.1==p.1) h1,nf,inc 11 k (by omega)] nx (by kernel_rfl)
 · have lt:decide ((k:Int)<((L.map dQ).length:Int))=false:=decide_eq_false (by rw[List.length_map];omega)
   rw[show fQ p L= -1 from fidx_no hI h]
   exact fi [na lt] (by kernel_rfl) (by kernel_rfl)
/-- Bytes are less than others. -/
def lowB (a b:List UInt8):Bool:=decide (Lib.compareBytes a b<0)
theorem low_ne (h:a.take i=b.take i) (ha:i<a.length) (hb:i<b.length) (hn:¬a.getD i 0=b.getD i 0):lowB a b=decide ((a.getD i 0).toNat<(b.getD i 0).toNat):=by
 induction i generalizing a b with
 |zero=>
  match a,b,ha,hb with
  |x::s,y::t,_,_=>
   simp only[List.getD_cons_zero]at hn⊢
   unfold lowB Lib.compareBytes
   have hne:x.toNat≠y.toNat:=fun e=>hn (UInt8.toNat_inj.1 e)
   by_cases h1:x<y
   · rw[if_pos h1]
     rw[UInt8.lt_iff_toNat_lt]at h1
     simp[h1]
   · rw[if_neg h1]
     rw[UInt8.lt_iff_toNat_lt]at h1
     have h2:y<x:=by rw[UInt8.lt_iff_toNat_lt];omega
     rw[if_pos h2]
     simp[h1]
 |succ i ih=>
  match a,b,ha,hb with
  |x::s,y::t,ha,hb=>
   simp only[List.take_succ_cons,List.cons.injEq]at h
   obtain⟨rfl,h⟩:=h
   simp only[List.length_cons]at ha hb
   simp only[List.getD_cons_succ]at hn⊢
   rw[←ih h (by omega) (by omega) hn]
   unfold lowB
   conv=>lhs;unfold Lib.compareBytes
   have:¬x<x:=by rw[UInt8.lt_iff_toNat_lt];omega
   rw[if_neg this,if_neg this]
theorem low_eq (h:a.take i=b.take i) (hi:i=a.length∨i=b.length):lowB a b=decide (a.length<b.length):=by
 induction i generalizing a b with
 |zero=>
  match a,b with
  |[],[]=>rfl
  |[],y::t=>simp[lowB,Lib.compareBytes]
  |x::s,[]=>simp[lowB,Lib.compareBytes]
  |x::s,y::t=>simp at hi
 |succ i ih=>
  match a,b with
  |[],[]=>rfl
  |[],y::t=>simp at h
  |x::s,[]=>simp at h
  |x::s,y::t=>
   simp only[List.take_succ_cons,List.cons.injEq]at h
   obtain⟨rfl,h⟩:=h
   have:=ih h (by simpa using hi)
   unfold lowB at this⊢
   conv=>lhs;unfold Lib.compareBytes
   have hx:¬x<x:=by rw[UInt8.lt_iff_toNat_lt];omega
   rw[if_neg hx,if_neg hx,this]
   simp
theorem gdl {α:Type} {l:List α} {d:α} (h:i<l.length):l[i]? =some (l.getD i d):=by rw[List.getD_eq_getElem?_getD,List.getElem?_eq_getElem h];rfl
noncomputable abbrev fLO:Func:=fnOf PP 63
theorem e_lower (a b : List UInt8) (ha : a.length ≤ 1000000) (hb : b.length ≤ 1000000) : Pure PP 63 [.sl (byL a), .sl (byL b)] (bo (lowB a b)) := by
 have la:((byL a).length:Int)=(a.length:Int):=by rw[byL_len]
 have lb:((byL b).length:Int)=(b.length:Int):=by rw[byL_len]
 let X:Nat→St:=fun k=>at_ fLO [(0,.sl (byL a)),(1,.sl (byL b)),(5,ni k)] []
 refine pf (by kernel_rfl) (.to mo_ [] [0,1,5] [] 0 [] (td':=lp fLO 0) (σ':=X 0) ?_ (by kernel_rfl))
 refine Gd.loop X (fun k=>k≤a.length∧k≤b.length∧a.take k=b.take k) (fun k=>a.length - k) ?_ 0 ⟨Nat.zero_le _,Nat.zero_le _,rfl⟩
 intro k ⟨hk,hk2,he⟩ ih
 by_cases h:k<a.length
 · have lt : decide ((k : Int) < ((byL a).length : Int)) = true := decide_eq_true (by omega)
   by_cases h2:k<b.length
   · have lt2:decide ((k:Int)<((byL b).length:Int))=true:=decide_eq_true (by omega)
     have s1:=byL_at (l:=a) (gdl (d:=0) h)
     have s2:=byL_at (l:=b) (gdl (d:=0) h2)
     by_cases e:a.getD k 0=b.getD k 0
     · have ne:((((a.getD k 0).toNat:Int) != ((b.getD k 0).toNat:Int)):Bool)=false:=by rw[e];simp
       have tk:a.take (k+1)=b.take (k+1):=by
        rw[List.take_add_one,List.take_add_one,he,gdl (d:=0) h,gdl (d:=0) h2,e]
       exact .to mo_ [] [0,1,5] [] 0 [ye lt,ye lt2,.sel _ _ _ s1,.sel _ _ _ s2,na ne,inc 17 k (by omega)] (ih (k+1) ⟨h,h2,tk⟩ (by omega)) (by kernel_rfl)
     · have ne:((((a.getD k 0).toNat:Int) != ((b.getD k 0).toNat:Int)):Bool)=true:=by
        have:(a.getD k 0).toNat≠(b.getD k 0).toNat:=fun h=>e (UInt8.toNat_inj.1 h)
        simp only[bne_iff_ne,ne_eq,Int.natCast_inj]
        exact this
       have eq:decide (((a.getD k 0).toNat:Int)<((b.getD k 0).toNat:Int))=lowB a b:=by
        rw[low_ne he h h2 e]
        exact decide_eq_decide.2 (by omega)
       exact fi [ye lt,ye lt2,.sel _ _ _ s1,.sel _ _ _ s2,ye ne,.sel _ _ _ s1,.sel _ _ _ s2,.eqv 35 (bo (decide (((a.getD k 0).toNat:Int)<((b.getD k 0).toNat:Int)))) (bo (lowB a b)) (by rw[eq])] (by kernel_rfl) (by kernel_rfl)
   · have lt2:decide ((k:Int)<((byL b).length:Int))=false:=decide_eq_false (by omega)
     have eq:decide (((byL a).length:Int)<((byL b).length:Int))=lowB a b:=by
      rw[low_eq he (.inr (by omega))]
      exact decide_eq_decide.2 (by omega)
     exact fi [ye lt,na lt2,.eqv 40 (bo (decide (((byL a).length:Int)<((byL b).length:Int)))) (bo (lowB a b)) (by rw[eq])] (by kernel_rfl) (by kernel_rfl)
 · have lt:decide ((k:Int)<((byL a).length:Int))=false:=decide_eq_false (by omega)
   have eq:decide (((byL a).length:Int)<((byL b).length:Int))=lowB a b:=by
    rw[low_eq he (.inl (by omega))]
    exact decide_eq_decide.2 (by omega)
   exact fi [na lt,nf,.eqv 40 (bo (decide (((byL a).length:Int)<((byL b).length:Int)))) (bo (lowB a b)) (by rw[eq])] (by kernel_rfl) (by kernel_rfl)
/-- Each name once, the first claim of it: so far. -/
structure Onc (T O:List CQ):Prop where
 nd:O.Pairwise fun a b=>¬a.cm.nm=b.cm.nm
 fs:∀ q∈O,Fst T q
 cv:∀ r∈T,∃ a∈O,a.cm.nm=r.cm.nm
theorem Onc.one {T O:List CQ} (h:Onc T O) {x y:CQ} (hx:x∈O) (hy:y∈O) (e:x.cm.nm=y.cm.nm):x=y:=by
 obtain⟨i,hi,rfl⟩:=List.getElem_of_mem hx
 obtain⟨j,hj,rfl⟩:=List.getElem_of_mem hy
 have pw:=List.pairwise_iff_getElem.1 h.nd
 rcases Nat.lt_trichotomy i j with g|g|g
 · exact absurd e (pw i j hi hj g)
 · subst g;rfl
 · exact absurd e.symm (pw j i hj hi g)
theorem Onc.nil:Onc [] []:=⟨.nil,fun q h=>(by cases h),fun r h=>(by cases h)⟩
theorem Onc.add {T O:List CQ} (h:Onc T O) (hq:∀ a∈O,¬a.cm.nm=q.cm.nm):Onc (T++[q]) (O++[q]):=by
 refine⟨List.pairwise_append.2 ⟨h.nd,List.pairwise_singleton _ _,fun a ha b hb=>by rw[List.mem_singleton]at hb;subst hb;exact hq a ha⟩,fun a ha=> ?_,fun r hr=> ?_⟩
 · rcases List.mem_append.1 ha with ha|ha
   · have hf:=h.fs a ha
     refine⟨List.mem_append_left _ hf.1,fun r hr e=> ?_⟩
     rcases List.mem_append.1 hr with hr|hr
     · exact hf.2 r hr e
     · rw[List.mem_singleton]at hr
       exact absurd (e.symm.trans (congrArg (fun x:CQ=>x.cm.nm) hr)) (hq a ha)
   · rw[List.mem_singleton]at ha
     subst ha
     refine⟨List.mem_append_right _ (List.mem_singleton.2 rfl),fun r hr e=> ?_⟩
     rcases List.mem_append.1 hr with hr|hr
     · obtain⟨b,hb,eb⟩:=h.cv r hr
       exact absurd (eb.trans e) (hq b hb)
     · rw[List.mem_singleton]at hr;subst hr;rw[cmp1_cmp.refl];exact Int.le_refl _
 · rcases List.mem_append.1 hr with hr|hr
   · obtain⟨b,hb,eb⟩:=h.cv r hr
     exact⟨b,List.mem_append_left _ hb,eb⟩
   · rw[List.mem_singleton]at hr;subst hr
     exact⟨_,List.mem_append_right _ (List.mem_singleton.2 rfl),rfl⟩
theorem cmp1_same {x y:CQ} (e:x.cm.nm=y.cm.nm):cmp1 x y=Lib.compareBytes (encC x) (encC y):=by
 unfold cmp1
 rw[e,ordN_cmp.refl]
 rfl
theorem Onc.keep {T O:List CQ} (h:Onc T O) (hr:r∈O) (e:r.cm.nm=q.cm.nm) (hl:lowB (encC q) (encC r)=false):Onc (T++[q]) O:=by
 refine⟨h.nd,fun a ha=> ?_,fun x hx=> ?_⟩
 · have hf:=h.fs a ha
   refine⟨List.mem_append_left _ hf.1,fun x hx ex=> ?_⟩
   rcases List.mem_append.1 hx with hx|hx
   · exact hf.2 x hx ex
   · rw[List.mem_singleton]at hx
     subst hx
     rw[h.one ha hr (ex.symm.trans e.symm),cmp1_same e]
     have h1:=of_decide_eq_false hl
     have:=cb_cmp.neg (encC x) (encC r)
     omega
 · rcases List.mem_append.1 hx with hx|hx
   · exact h.cv x hx
   · rw[List.mem_singleton]at hx;subst hx;exact⟨r,hr,e⟩
theorem Onc.put {T O:List CQ} (h:Onc T O) (hr:O[k]? =some r) (e:r.cm.nm=q.cm.nm) (hl:lowB (encC q) (encC r)=true):Onc (T++[q]) (O.set k q):=by
 obtain⟨hk,g⟩:=List.getElem?_eq_some_iff.1 hr
 have hrm:r∈O:=List.mem_of_getElem? hr
 have other:∀ a∈O.set k q,a=q∨(a∈O∧¬a.cm.nm=q.cm.nm):=fun a ha=>by
  obtain⟨j,hj,rfl⟩:=List.getElem_of_mem ha
  rw[List.length_set]at hj
  by_cases hjk:j=k
  · subst hjk;left;simp
  · right
    have hne:(O.set k q)[j]'(by rw[List.length_set];exact hj)=O[j]:=List.getElem_set_ne (by omega) _
    rw[hne]
    refine⟨List.getElem_mem _,fun e2=> ?_⟩
    have:=h.one (List.getElem_mem hj) hrm (e2.trans e.symm)
    have pw:=List.pairwise_iff_getElem.1 h.nd
    rcases Nat.lt_or_ge j k with g2|g2
    · exact pw j k hj hk g2 (by rw[this,g])
    · exact pw k j hk hj (by omega) (by rw[this,g])
 have low:=of_decide_eq_true hl
 refine⟨?_,fun a ha=> ?_,fun x hx=> ?_⟩
 · rw [List.pairwise_iff_getElem]
   intro i j hi hj hij
   rw[List.length_set]at hi hj
   have pw:=List.pairwise_iff_getElem.1 h.nd
   rw[List.getElem_set,List.getElem_set]
   split
   · rename_i e1
     subst e1
     rw[if_neg (by omega),←e,←g]
     exact pw k j hi hj hij
   · split
     · rename_i e1
       subst e1
       rw[←e,←g]
       exact pw i k hi hj hij
     · exact pw i j hi hj hij
 · rcases other a ha with rfl|⟨ha,hne⟩
   · refine⟨List.mem_append_right _ (List.mem_singleton.2 rfl),fun x hx ex=> ?_⟩
     rcases List.mem_append.1 hx with hx|hx
     · have h1:=(h.fs r hrm).2 x hx (ex.trans e.symm)
       have h2:cmp1 a r<0:=by rw[cmp1_same e.symm];exact low
       exact cmp1_cmp.tr a r x (by omega) h1
     · rw[List.mem_singleton]at hx;subst hx;rw[cmp1_cmp.refl];exact Int.le_refl _
   · have hf:=h.fs a ha
     refine⟨List.mem_append_left _ hf.1,fun x hx ex=> ?_⟩
     rcases List.mem_append.1 hx with hx|hx
     · exact hf.2 x hx ex
     · rw[List.mem_singleton]at hx;subst hx;exact absurd ex.symm hne
 · have hq:q∈O.set k q:=List.mem_set hk _
   rcases List.mem_append.1 hx with hx|hx
   · obtain⟨b,hb,eb⟩:=h.cv x hx
     by_cases hbr:b=r
     · subst hbr;exact⟨q,hq,e.symm.trans eb⟩
     · obtain⟨j,hj,hj2⟩:=List.getElem_of_mem hb
       have hjk:j≠k:=fun e=>by subst e;exact hbr (by rw[←hj2,←g])
       refine⟨b, ?_,eb⟩
       rw[←hj2,←List.getElem_set_ne (l:=O) (i:=k) (j:=j) (by omega) (a:=q) (by rw[List.length_set];exact hj)]
       exact List.getElem_mem _
   · rw[List.mem_singleton]at hx;subst hx;exact⟨_,hq,rfl⟩
end
end Go.Proofs.YtfdfbenejkmnlaaGreatDoor.E.Ca
namespace Go.Proofs.YtfdfbenejkmnlaaGreatDoor.E.Ca
open Go.RowKit
set_option linter.unusedVariables false
set_option linter.unusedSimpArgs false
section
variable {q r a:CQ} {L O:List CQ} {i k n:Nat}
theorem once_mem (hL:∀ q∈L,Sq q) (h:Onc L O):q∈O↔q∈sorted L:=by
 constructor
 · exact fun hq=>fst_sorted hL (h.fs q hq)
 · intro hq
   have f:=sorted_fst hq
   obtain⟨a,ha,e⟩:=h.cv q f.1
   have g:=h.fs a ha
   have h1:=g.2 q f.1 e.symm
   have h2:=f.2 a g.1 e
   have h3:=cmp1_cmp.neg a q
   have h4:cmp1 a q=0:=by omega
   rw[←cmp1_eq (hL a g.1) (hL q f.1) h4]
   exact ha
/-- A claim at its place. -/
def putQ (O:List CQ) (k:Nat) (q:CQ):List CQ:=O.take k++[q]++O.drop k
theorem putQ_mem:a∈putQ O k q↔a∈O∨a=q:=by
 unfold putQ
 rw[List.mem_append,List.mem_append,List.mem_singleton]
 constructor
 · rintro ((h|h)|h)
   · exact .inl (List.mem_of_mem_take h)
   · exact .inr h
   · exact .inl (List.mem_of_mem_drop h)
 · rintro (h|h)
   · rw[←List.take_append_drop k O,List.mem_append]at h
     rcases h with h|h
     · exact .inl (.inl h)
     · exact .inr h
   · exact .inl (.inr h)
theorem putQ_len (hk:k≤O.length):(putQ O k q).length=O.length+1:=by
 unfold putQ
 rw[List.length_append,List.length_append,List.length_take,List.length_drop]
 simp only[List.length_cons,List.length_nil]
 omega
/-- What is sorted so far: the claims of P, each before the next one. -/
structure Srd (P O:List CQ):Prop where
 pw:O.Pairwise fun a b=>cmp2 a b<0
 mm:∀ a,a∈O↔a∈P
 ln:O.length=P.length
theorem Srd.nil:Srd [] []:=⟨.nil,fun a=>Iff.rfl,rfl⟩
theorem Srd.put {P:List CQ} (h:Srd P O) (hne:∀ a∈P,¬a.cm.nm=q.cm.nm) (hk:k≤O.length) (hj:∀ (j:Nat) (r:CQ),k≤j→O[j]? =some r→cmp2 q r<0) (h0:k=0∨∃ r,O[k - 1]? =some r∧¬cmp2 q r<0):Srd (P++[q]) (putQ O k q):=by
 have low : ∀ a ∈ O.take k, cmp2 a q < 0 := fun a ha => by
  obtain⟨j,hj1,rfl⟩:=List.getElem_of_mem ha
  rw[List.length_take]at hj1
  rw[List.getElem_take]
  rcases h0 with h0|⟨r,hr,hn⟩
  · omega
  · have hrm:r∈O:=List.mem_of_getElem? hr
    have h1:=cmp2_cmp.neg q r
    have h2:cmp2 r q≠0:=fun e=>hne r ((h.mm r).1 hrm) (cmp2_nm e)
    have h3:cmp2 r q<0:=by omega
    obtain⟨l2,g2⟩:=List.getElem?_eq_some_iff.1 hr
    rcases Nat.lt_or_ge j (k - 1)with h4|h4
    · have h5:=List.pairwise_iff_getElem.1 h.pw j (k - 1) (by omega) l2 h4
      rw[g2]at h5
      exact cmp2_cmp.lt_le h5 (by omega)
    · have:j=k - 1:=by omega
      subst this
      rw[g2]
      exact h3
 have high:∀ b∈O.drop k,cmp2 q b<0:=fun b hb=>by
  obtain⟨j,hj1,e⟩:=List.getElem_of_mem hb
  rw[List.getElem_drop]at e
  rw[List.length_drop]at hj1
  exact hj (k+j) b (by omega) (by rw[List.getElem?_eq_getElem (by omega),e])
 have pw:=h.pw
 rw[←List.take_append_drop k O,List.pairwise_append]at pw
 refine⟨?_,fun a=> ?_,by rw[putQ_len hk,h.ln,List.length_append];rfl⟩
 · unfold putQ
   rw[List.pairwise_append,List.pairwise_append]
   refine⟨⟨pw.1,List.pairwise_singleton _ _,fun a ha b hb=> ?_⟩,pw.2.1,fun a ha b hb=> ?_⟩
   · rw[List.mem_singleton]at hb;subst hb;exact low a ha
   · rcases List.mem_append.1 ha with ha|ha
     · exact pw.2.2 a ha b hb
     · rw[List.mem_singleton]at ha;subst ha;exact high b hb
 · rw[putQ_mem,h.mm,List.mem_append,List.mem_singleton]
theorem Srd.done (hL:∀ q∈L,Sq q) (h1:Onc L O) {S:List CQ} (h:Srd O S):S=sorted L:=
 strict_eq cmp2_cmp h.pw (sorted_pw L) fun a=>(h.mm a).trans (once_mem hL h1)
theorem Onc.ln {T O:List CQ} (h:Onc T O):O.length≤T.length:=by
 have nd:O.Nodup:=h.nd.imp fun{a b} hab e=>hab (by rw[e])
 exact nd.length_le_of_subset fun q hq=>(h.fs q hq).1
end
end Go.Proofs.YtfdfbenejkmnlaaGreatDoor.E.Ca
