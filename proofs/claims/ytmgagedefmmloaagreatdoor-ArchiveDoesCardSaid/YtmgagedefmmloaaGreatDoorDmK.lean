/-
 CLAIMS: slices.DeleteFunc on a row that is lent; Want of archives.
-/
import Derived.Test.YtmgagedefmmloaaGreatDoorDmH
import Derived.Test.YtmgagedefmmloaaGreatDoorDrA
import Derived.Test.YtmgagedefmmloaaGreatDoorDmD
namespace Go.Proofs.YtmgagedefmmloaaGreatDoor.E.Ca
open Go.RowKit Hs
set_option linter.unusedVariables false
set_option linter.unusedSimpArgs false
section
variable {L M C A l:List CQ} {p:Int×Int} {q r c o:CQ} {b:Int} {i j k n:Nat} {cs:List Int} {t:Int}
theorem zs_cnts:((zs (cnts n L)).length:Int)=(n:Int):=by unfold zs;rw[List.length_map,cnts_len]
open Classical in
theorem e_take (ha : Arc n L) (hc : Sq c) (hf : FBits 100 c.cm.fit) : PT (cnts n L) L c (aD (cnts n (tkL n L c)) (tkL n L c) (tkF n L c) (tkE n L c)) := by
 have hv:=e_cvalid (k:=100) (c:=c.cm) hf (by omega)
 have zc:=zs_cnts (n:=n) (L:=L)
 have same:∀ {e:Int},tkE n L c=e→e≠0→PT (cnts n L) L c (aD (cnts n L) L false e)→PT (cnts n L) L c (aD (cnts n (tkL n L c)) (tkL n L c) (tkF n L c) (tkE n L c)):=fun{e} h1 h2 h3=>by
  have f:tkF n L c=false:=by unfold tkF;rw[decide_eq_false (by rw[h1];exact h2)];rfl
  have g:tkL n L c=L:=by unfold tkL;rw[f];rfl
  rw[f,g,h1]
  exact h3
 by_cases h0:validI c.cm≠0
 · refine same (e:=validI c.cm) (by unfold tkE;rw[if_pos h0]) h0 (tk_inv hv ?_)
   simpa using h0
 have h0:=Decidable.not_not.1 h0
 have v:=va_0 h0
 have v1:0≤c.by_∧0≤c.seq∧c.seq<200:=⟨v.2.1,v.2.2.2.1,v.2.2.2.2.1⟩
 rw[h0]at hv
 by_cases h1:(n:Int)≤c.by_
 · exact same (e:=1) (by unfold tkE;rw[if_neg (by simp[h0]),if_pos h1]) (by decide) (tk_by hv (decide_eq_true (by rw[zc];exact h1)))
 have h1':decide (c.by_≥((zs (cnts n L)).length:Int))=false:=decide_eq_false (by rw[zc];exact h1)
 cases hfnd:fnd L c.cm.nm with
 |some o=>
  by_cases e:o=c
  · have e0:tkE n L c=0:=by unfold tkE;rw[if_neg (by simp[h0]),if_neg h1,hfnd];exact if_pos e
    have f:tkF n L c=false:=by unfold tkF;rw[hfnd];simp
    have g:tkL n L c=L:=by unfold tkL;rw[f];rfl
    rw[f,g,e0]
    exact tk_had hv h1' hfnd e
  · exact same (e:=7) (by unfold tkE;rw[if_neg (by simp[h0]),if_neg h1,hfnd];exact if_neg e) (by decide) (tk_two hv h1' hfnd e)
 | none =>
  obtain⟨k,hb⟩:∃ k:Nat,c.by_=(k:Int):=⟨c.by_.toNat,by omega⟩
  have hkn:k<n:=by omega
  have hk:=cnts_at (L:=L) hkn
  have hm:(chn L (k:Int)).length≤200:=Nat.le_trans (chn_le L _) ha.len
  have hn:c.refs.length≤1000:=by have:=v.1;exact Nat.le_trans this (by decide)
  have ev:∀ {x:Int},(if c.seq≠((chn L c.by_).length:Int)∨c.refs.any (unkB L)=true then 10 else if c.refs.any (lateB L c)=true∨(0<c.seq∧lateB L c (c.by_,c.seq - 1)=true)then 5 else if 200≤L.length then 4 else 0)=x→tkE n L c=x:=fun{x} h=>by unfold tkE;rw[if_neg (by simp[h0]),if_neg h1,hfnd];exact h
  rw[hb]at ev
  by_cases hs:c.seq≠((chn L (k:Int)).length:Int)
  · have e:=ev (if_pos (.inl hs))
    exact same e (by decide) (tk_new hv h1' hfnd (D:=(hA_ (cnts n L) L,.tu [bo false,ni 10])) (tn_seq hb hk (by simpa using hs)))
  have hs:=Decidable.not_not.1 hs
  have hs2:(c.seq != ((chn L (k:Int)).length:Int))=false:=by rw[hs];simp
  cases hu:c.refs.any (unkB L)with
  |true=>
   have e:=ev (if_pos (.inr hu))
   exact same e (by decide) (tk_new hv h1' hfnd (D:=(hA_ (cnts n L) L,.tu [bo false,ni 10])) (tn_unk hn hb hk hs2 hu))
  |false=>
   have n10:¬(c.seq≠((chn L (k:Int)).length:Int)∨c.refs.any (unkB L)=true):=fun h=>h.elim (fun h=>h hs) fun h=>by rw[hu]at h;cases h
   cases hl:c.refs.any (lateB L c)with
   |true=>
    have e:=ev ((if_neg n10).trans (if_pos (.inl hl)))
    exact same e (by decide) (tk_new hv h1' hfnd (D:=(hA_ (cnts n L) L,.tu [bo false,ni 5])) (tn_late1 hn hb hk hs2 hu hl))
   |false=>
    by_cases hp:0<c.seq∧lateB L c (c.by_,c.seq - 1)=true
    · have e:=ev ((if_neg n10).trans (if_pos (.inr (by rw[←hb];exact hp))))
      exact same e (by decide) (tk_new hv h1' hfnd (D:=(hA_ (cnts n L) L,.tu [bo false,ni 5])) (tn_late2 hn hb hk hs2 hu hl (decide_eq_true hp.1) (by omega) hp.2))
    · have hp2:0<c.seq→lateB L c (c.by_,c.seq - 1)=false:=fun h=>by
       cases g:lateB L c (c.by_,c.seq - 1)with
       |false=>rfl
       |true=>exact absurd ⟨h,g⟩ hp
      have n5:¬(c.refs.any (lateB L c)=true∨(0<c.seq∧lateB L c ((k:Int),c.seq - 1)=true)):=fun h=>h.elim (fun h=>by rw[hl]at h;cases h) fun h=>hp (by rw[hb];exact h)
      by_cases hL:200≤L.length
      · have e:=ev ((if_neg n10).trans ((if_neg n5).trans (if_pos hL)))
        exact same e (by decide) (tk_new hv h1' hfnd (D:=(hA_ (cnts n L) L,.tu [bo false,ni 4])) (tn_on hn hb hk hs2 hu hl (by omega) hp2 (D:=(hA_ (cnts n L) L,.tu [bo false,ni 4])) (tn_full (decide_eq_true (by omega)))))
      · have e:=ev ((if_neg n10).trans ((if_neg n5).trans (if_neg hL)))
        have f:tkF n L c=true:=by unfold tkF;rw[e,hfnd];rfl
        have g:tkL n L c=L++[c]:=by unfold tkL;rw[f];rfl
        have k0:(zs (cnts n L)).set k [ni (((chn L (k:Int)).length+1:Nat):Int)]=zs (cnts n (L++[c])):=by
         rw[←cnts_add hb hkn]
         unfold zs
         rw[List.map_set]
        rw[f,g,e]
        exact tk_new hv h1' hfnd (D:=(hA_ (cnts n (L++[c])) (L++[c]),.tu [bo true,ni 0])) (tn_on hn hb hk hs2 hu hl (by omega) hp2 (D:=(hA_ (cnts n (L++[c])) (L++[c]),.tu [bo true,ni 0])) (tn_ok hn (decide_eq_false (by omega)) hb hk (by omega) hfnd k0))
/-- Take of a list: what is there then, how many are new, the error. -/
noncomputable def takL (n:Nat):List CQ→List CQ→Int→List CQ×Int×Int
 |L,[],m=>(L,m,0)
 |L,c::r,m=>if tkE n L c=0 then takL n (tkL n L c) r (if tkF n L c then m+1 else m)else(L,m,tkE n L c)
noncomputable abbrev fTL:Func:=fnOf PP 16
noncomputable def tlX (n:Nat) (l L:List CQ) (m:Int) (k:Nat):St:=at_ fTL [(0,.lp 2 0),(6,ni m),(13,slQ l),(14,ni l.length),(15,ni k)] (hA_ (cnts n L) L)
theorem tkL_e (h:tkE n L c≠0):tkL n L c=L∧tkF n L c=false:=by
 have f:tkF n L c=false:=by unfold tkF;rw[decide_eq_false h];rfl
 exact⟨by unfold tkL;rw[f];rfl,f⟩
theorem e_takeL (ha:Arc n L) (hc:∀ c∈l,Sq c∧FBits 100 c.cm.fit) (hl:l.length≤100000):PureT PP 16 (hA_ (cnts n L) L) [.lp 2 0,slQ l] (.io 3 (hA_ (cnts n (takL n L l 0).1) (takL n L l 0).1) (.tu [ni (takL n L l 0).2.1,ni (takL n L l 0).2.2])):=by
 have ln:ni ((l.map dQ).length:Int)=ni (l.length:Int):=by rw[List.length_map]
 refine pfT (by kernel_rfl) (.to mo_ [] [0,6,13,14,15] [0,1,2] 3 [pnA 12 2,nf,.eqv 14 _ _ ln] (td':=lp fTL 0) (σ':=tlX n l L 0 0) ?_ (by kernel_rfl))
 generalize hR:takL n L l 0=R
 obtain⟨L',m',e'⟩:=R
 simp only
 have main : ∀ d k, k + d = l.length → ∀ (L : List CQ) (m : Int), Arc n L → 0 ≤ m ∧ m ≤ k → takL n L (l.drop k) m = (L', m', e') → Gd PP 16 (.io 3 (hA_ (cnts n L') L') (.tu [ni m', ni e'])) (lp fTL 0) (tlX n l L m k) := by
  intro d k hd L m ha hm hR
  refine Gd.loop (fun x:Nat×List CQ×Int=>tlX n l x.2.1 x.2.2 x.1) (fun x=>x.1≤l.length∧Arc n x.2.1∧(0≤x.2.2∧x.2.2≤x.1)∧takL n x.2.1 (l.drop x.1) x.2.2=(L',m',e')) (fun x=>l.length - x.1) ?_ (k,L,m) ⟨by omega,ha,hm,hR⟩
  rintro ⟨k,L,m⟩ ⟨hk,ha,hm,hR⟩ ih
  simp only at hk ha hm hR ih
  by_cases h:k<l.length
  · have lt:decide ((k:Int)<(l.length:Int))=true:=decide_eq_true (by omega)
    obtain⟨q,hq⟩:∃ q,l[k]? =some q:=⟨_,List.getElem?_eq_getElem h⟩
    have s1:=dQ_at hq
    obtain⟨h1,h2⟩:=hc q (List.mem_of_getElem? hq)
    have tk:=e_take ha h1 h2
    have dr:l.drop k=q::l.drop (k+1):=by
     obtain⟨l1,g1⟩:=List.getElem?_eq_some_iff.1 hq
     rw[List.drop_eq_getElem_cons l1,g1]
    rw[dr,takL]at hR
    have ha2:=tkL_arc ha h1 h2
    by_cases e0:tkE n L q=0
    · rw[if_pos e0]at hR
      rw[e0]at tk
      cases hf:tkF n L q with
      |true=>
       rw[hf]at hR tk
       have nx:=ih (k+1,tkL n L q,m+1) ⟨h,ha2,by simp only;omega,by simpa using hR⟩ (by simp only;omega)
       generalize tkL n L q=L2 at*
       unfold PT aD at tk
       unfold tlX slQ at*
       unfold hA_ at*
       generalize mpL L=M1 at*
       generalize mpL L2=M2 at*
       exact .to mo_ [] [0,6,13,14,15] [0,1,2] 3 [ye lt,.sel _ _ _ s1,.lend _ _ _ _ [0,1,2] tk,nf,yt,wq 31 (m+1) (m+1) (by omega),inc 32 k (by omega)] nx (by kernel_rfl)
      |false=>
       rw[hf]at hR tk
       have nx:=ih (k+1,tkL n L q,m) ⟨h,ha2,by simp only;omega,by simpa using hR⟩ (by simp only;omega)
       generalize tkL n L q=L2 at*
       unfold PT aD at tk
       unfold tlX slQ at*
       unfold hA_ at*
       generalize mpL L=M1 at*
       generalize mpL L2=M2 at*
       exact .to mo_ [] [0,6,13,14,15] [0,1,2] 3 [ye lt,.sel _ _ _ s1,.lend _ _ _ _ [0,1,2] tk,nf,nf,inc 32 k (by omega)] nx (by kernel_rfl)
    · rw[if_neg e0]at hR
      obtain⟨g1,g2⟩:=tkL_e e0
      rw[g1,g2]at tk
      injection hR with hR1 hR
      injection hR with hR2 hR3
      subst hR1;subst hR2;subst hR3
      have ne:(tkE n L q != 0)=true:=by simpa using e0
      generalize tkE n L q=e at*
      unfold PT aD at tk
      unfold tlX slQ at*
      unfold hA_ at*
      generalize mpL L=M1 at*
      exact fi [ye lt,.sel _ _ _ s1,.lend _ _ _ _ [0,1,2] tk,ye ne] (by kernel_rfl) (by kernel_rfl)
  · have lt:decide ((k:Int)<(l.length:Int))=false:=decide_eq_false (by omega)
    rw[List.drop_eq_nil_of_le (by omega),takL]at hR
    injection hR with hR1 hR
    injection hR with hR2 hR3
    subst hR1;subst hR2;subst hR3
    unfold tlX slQ
    unfold hA_
    generalize mpL L=M1 at*
    exact fi [na lt] (by kernel_rfl) (by kernel_rfl)
 exact main l.length 0 (by omega) L 0 ha (by omega) (by rw[List.drop_zero];exact hR)
end
end Go.Proofs.YtmgagedefmmloaaGreatDoor.E.Ca
namespace Go.Proofs.YtmgagedefmmloaaGreatDoor.E
open Go.RowKit
set_option linter.unusedVariables false
set_option linter.unusedSimpArgs false
theorem renV_id:∀ (n:Nat) (x:V),renV (fun j=>j) n x=x
 |0,x=>rfl
 |n+1,x=>by
  have hm:∀ l:List V,l.map (renV (fun j=>j) n)=l:=fun l=>by
   rw[show renV (fun j=>j) n=id from funext fun y=>renV_id n y,List.map_id]
  cases x<;>simp only[renV,hm]
theorem renH_id (x:HO):renH (fun j=>j) x=x:=by
 cases x<;>simp only[renH]
 rename_i l
 rw[show renV (fun j=>j) 5=id from funext fun y=>renV_id 5 y,List.map_id]
def mkC1 (ts:Array TypeId) (xs:List Operand):Op:= .call ⟨.value (xs.getD 0 (.tmp 0)), #[xs.getD 1 (.tmp 0)],ts⟩
def lrd:List HO→Nat→List (Nat×HO)
 |[],_=>[]
 |x::r,i=>(i,x)::lrd r (i+1)
theorem lrd_mem:∀ {l:List HO} {i j:Nat},j<l.length→(i+j,l.getD j .dead)∈lrd l i
 |[],_,_,h=>by simp at h
 |x::r,i,0,_=>List.mem_cons_self ..
 |x::r,i,j+1,h=>by
  refine List.mem_cons_of_mem _ ?_
  have:=lrd_mem (l:=r) (i:=i+1) (j:=j) (by simpa using h)
  rw[show i+1+j=i+(j+1)by omega]at this
  exact this
def lendC (hs hs1:List HO) (ds:List V) (d:V):Bool:=(hs.all HO.own&&hs.all (okH fun b=>Nat.blt b hs.length))&&(ds.all (okV (fun b=>Nat.blt b hs.length) 5)&&(hs1.all (okH fun b=>Nat.blt b hs1.length)&&okV (fun b=>Nat.blt b hs1.length) 5 d))
/-- A call to which objects are lent; those that it turns are told. -/
theorem x_lend {P:Program} {f:FuncId} {ts:Array TypeId} {hs hs1:List HO} {a1:V} {caps:List V} {d:V} {ws:List (Nat×HO)} (hp:PureT P f hs (a1::caps) (.io hs.length hs1 d)) (hl:hs1.length=hs.length) (hc:lendC hs hs1 (a1::caps) d=true)
 (hw:∀ h:Nat→HO,(∀ j,j<hs.length→h j=hs.getD j .dead)→upds h ws=upds h (lws (fun j=>j) hs1)):Ext P (mkC1 ts) [.cl f caps,a1] (lrd hs 0) ws d:=by
 intro B M h m w a o xs ho K hxl hr hrd _
 obtain⟨x0,x1,rfl⟩:=two_of hxl
 have r0:=hr 0 x0 _ rfl rfl
 have r1:=hr 1 x1 _ rfl rfl
 simp only[mkC1,List.getD_cons_zero,List.getD_cons_succ]at ho
 obtain⟨cs,hce,hcs,hcr⟩:∃ cs:Array Value,a.eval x0= .func (.func f) #[] cs∧cs.size=caps.length∧∀ j x,caps[j]? =some x→Rep w (Av M h m) m (cs.getD j undef) x:=by
  generalize a.eval x0=u at r0
  cases r0 with
  |cl _ _ cs _ h1 h2=>exact⟨cs,rfl,h1,h2⟩
 unfold lendC at hc
 simp only[Bool.and_eq_true,List.all_eq_true]at hc
 obtain⟨⟨c6,c7⟩,c8,c9,c10⟩:=hc
 have hh:∀ j,j<hs.length→h j=hs.getD j .dead:=fun j hj=>by
  have:=hrd _ (lrd_mem (i:=0) hj)
  simpa using this
 have hget:∀ j,j<hs.length→hs.getD j .dead∈hs:=fun j hj=>by
  rw[List.getD_eq_getElem?_getD,List.getElem?_eq_getElem hj]
  exact List.getElem_mem hj
 have L:Lend B M h m w (fun j=>j) hs.length hs:=⟨K,rfl,fun j hj=>by rw[renH_id];exact hh j hj,fun j hj=>c6 _ (hget j hj),fun j hj=>c7 _ (hget j hj),fun i j _ _ e=>e⟩
 have hmo:Mo w (Av M h m) no w (Av (Av M (rest h (fun j=>j) hs.length) m) (fun b=>hs.getD b .dead) (mLent m (fun j=>j) hs.length)) no:=⟨Nat.le_refl _,fun _ _ _=>rfl,fun g e=> .inl (L.av e),fun _ _ e=>e⟩
 have hlent:∀ b,Nat.blt b hs.length=true→mLent m (fun j=>j) hs.length b=m b:=fun b hb=>if_pos (by simpa using hb)
 have down:∀ y u,okV (fun b=>Nat.blt b hs.length) 5 y=true→Rep w (Av M h m) m u y→Rep w (Av (Av M (rest h (fun j=>j) hs.length) m) (fun b=>hs.getD b .dead) (mLent m (fun j=>j) hs.length)) (mLent m (fun j=>j) hs.length) u y:=fun y u hy hu=>by
  refine ren_down (r:=fun j=>j) (p:=fun b=>Nat.blt b hs.length) hlent hmo 5 y u hy ?_
  rw[renV_id]
  exact hu
 have hargs:Reps w (Av (Av M (rest h (fun j=>j) hs.length) m) (fun b=>hs.getD b .dead) (mLent m (fun j=>j) hs.length)) (mLent m (fun j=>j) hs.length) (#[a.eval x1]++cs) (a1::caps):=by
  refine⟨by simp[hcs];omega,fun j y hy=> ?_,K.gl.mo hmo⟩
  have hy8:=c8 y (List.mem_of_getElem? hy)
  refine down y _ hy8 ?_
  cases j with
  |zero=>
   simp only[List.getElem?_cons_zero,Option.some.injEq]at hy
   subst hy
   rw[Array.getD_eq_getD_getElem?,Array.getElem?_append_left (by simp)]
   exact r1
  |succ j=>
   simp only[List.getElem?_cons_succ]at hy
   have:=hcr j y hy
   rw[Array.getD_eq_getD_getElem?,Array.getElem?_append_right (by simp)]
   simpa[Array.getD_eq_getD_getElem?]using this
 have hlive:∀ j,j<hs.length→m j≠none:=fun j hj=>by
  have hlv:=L.live hj
  cases hx:h j with
  |bx T l=>obtain⟨g,cs,q,_⟩:=K.bx _ T l hx;rw[q];intro e;cases e
  |rw T z l=>obtain⟨v,xs,q,_⟩:=K.rw _ T z l hx;rw[q];intro e;cases e
  |mp l=>obtain⟨g,q,_⟩:=K.mp _ l hx;rw[q];intro e;cases e
  |dead=>simp only[hx]at hlv;cases hlv
  |fz x=>simp only[hx]at hlv;cases hlv
 have hcall:=hp.2 w (NLent w m (fun j=>j) hs.length) (Av M (rest h (fun j=>j) hs.length) m) (mLent m (fun j=>j) hs.length) _ L.give (fun b hb=>by
  rcases Nat.lt_or_ge b hs.length with h1|h1
  · exact h1
  · exact absurd (if_neg (by omega)) hb) (fun b hb=>by
  have hb:b<hs.length:=hb
  show(if _ then _ else _)≠_
  rw[if_pos hb]
  exact hlive b hb) hargs
 refine .inr (.inr ⟨f, #[a.eval x1]++cs, ?_,hcall.mono fun e w' he=> ?_⟩)
 · have:=hp.1 (#[a.eval x1]++cs) w
   simp[execOp,ho,resolve,hce,Deferred.ofValue,invoke]at this⊢
   exact this
 · obtain⟨v,rfl,⟨h',m',K',q1,q2,q3⟩,hb⟩:=he
   obtain⟨m2,t1,t2,t3,t4,t5⟩:=L.take (n:=hs.length) (hs1:=hs1) (by omega) (fun j hj=>by omega) (fun j hj=>hj) (fun j hj=>by
     rw[List.getD_eq_getElem?_getD,List.getElem?_eq_getElem hj]
     exact c9 _ (List.getElem_mem hj)) (fun j hj hj2=>by omega) K' hb q1 q2
   rw[←hw h hh]at t1 t2 t4
   have t6:=t4 v d c10 q3
   rw[renV_id]at t6
   refine⟨v,rfl,m2,t1,t6,t2,t3,fun b hbn=>(t5 b hbn).elim .inl fun hm=> .inl ?_⟩
   unfold lws at hm
   rw[List.map_map,List.mem_map]at hm
   obtain⟨j,hj,rfl⟩:=hm
   exact hlive j (by have:=List.mem_range.1 hj;omega)
theorem upds_lws {h:Nat→HO} {hs:List HO} (hh:∀ j,j<hs.length→h j=hs.getD j .dead):upds h (lws (fun j=>j) hs)=h:=by
 funext b
 have key:∀ l:List Nat,(∀ j∈l,j<hs.length)→upds h (l.map fun j=>(j,renH (fun j=>j) (hs.getD j .dead))) b=h b:=fun l=>by
  induction l with
  |nil=>exact fun _=>rfl
  |cons x r ih=>
   intro hl
   rw[List.map_cons]
   show upd (upds h _) x _ b=h b
   by_cases e:b=x
   · subst e
     rw[upd_eq,renH_id]
     exact(hh b (hl b (List.mem_cons_self ..))).symm
   · rw[upd_ne e]
     exact ih fun j hj=>hl j (List.mem_cons_of_mem _ hj)
 exact key (List.range hs.length) fun j hj=>List.mem_range.1 hj
/-- A call to which objects are lent, and that leaves them as they were. -/
theorem x_lend0 {P:Program} {f:FuncId} {ts:Array TypeId} {hs:List HO} {a1:V} {caps:List V} {d:V} (hp:PureT P f hs (a1::caps) (.io hs.length hs d)) (hc:lendC hs hs (a1::caps) d=true):Ext P (mkC1 ts) [.cl f caps,a1] (lrd hs 0) [] d:=
 x_lend hp rfl hc fun h hh=>(upds_lws hh).symm
end Go.Proofs.YtmgagedefmmloaaGreatDoor.E
namespace Go.Proofs.YtmgagedefmmloaaGreatDoor.E.Ca
open Go.RowKit Hs
set_option linter.unusedVariables false
set_option linter.unusedSimpArgs false
section
variable {L M C A l:List CQ} {p:Int×Int} {q r c o:CQ} {b:Int} {i j k n:Nat} {cs:List Int} {t:Int}
theorem tick_le (ha:Arc n L) (hq:q∈L):0≤q.tick∧q.tick≤1048576:=by
 have:=va_0 (ha.va q hq)
 exact⟨this.2.2.2.2.2.1,this.2.2.2.2.2.2⟩
theorem clk_le (ha:Arc n L):∀ k,0≤clkP L k∧clkP L k≤1048576
 |0=>⟨Int.le_refl _,show(0:Int)≤1048576 by decide⟩
 |k+1=>by
  have ih:=clk_le ha k
  unfold clkP
  cases h:(chn L (k:Int)).getLast? with
  |none=>exact ih
  |some q=>
   have:=tick_le ha (chn_mem.1 (List.mem_of_getLast? h)).1
   show 0≤max (clkP L k) q.tick∧max (clkP L k) q.tick≤1048576
   omega
/-- The claim that Make makes. -/
def mkQ (n:Nat) (L:List CQ) (c:CQ):CQ:={c with seq:=((chn L c.by_).length:Int),tick:=clkP L n+1}
theorem mkQ_sq (ha:Arc n L) (hc:Sq c):Sq (mkQ n L c):=by
 have h1:=clk_le ha n
 have h2:=chn_le L c.by_
 have h3:=ha.len
 refine⟨fun x hx=> ?_,hc.r,hc.f,hc.q,hc.n⟩
 have hh:=hc.h
 simp only[hdQ,mkQ,List.mem_cons,List.not_mem_nil,or_false]at hx hh
 unfold W.Is64
 rcases hx with rfl|rfl|rfl|rfl|rfl
 · exact hh _ (.inl rfl)
 · omega
 · omega
 · exact hh _ (.inr (.inr (.inr (.inl rfl))))
 · exact hh _ (.inr (.inr (.inr (.inr rfl))))
abbrev PM (cs:List Int) (L:List CQ) (c:CQ) (D:RD):Prop:=PureT PP 36 (hA_ cs L) [.lp 2 0,.ag (dQ c)] D
theorem mk_neg (h:c.by_<0):PM cs L c (.io 3 (hA_ cs L) (.tu [.ag zlC,ni 1])):=by
 have h1:decide (c.by_<0)=true:=decide_eq_true h
 unfold PM hA_
 generalize mpL L=M at*
 exact trT [pnA 9 2,nf,ye h1,yt] (by kernel_rfl)
theorem mk_big (h0:0≤c.by_) (h:((zs cs).length:Int)≤c.by_):PM cs L c (.io 3 (hA_ cs L) (.tu [.ag zlC,ni 1])):=by
 have h1:decide (c.by_<0)=false:=decide_eq_false (by omega)
 have h2:decide (c.by_≥((zs cs).length:Int))=true:=decide_eq_true h
 unfold PM hA_
 generalize mpL L=M at*
 exact trT [pnA 9 2,nf,na h1,nk 19 2,ye h2] (by kernel_rfl)
theorem mk_some {v:Int} (hn:c.refs.length≤1000) (hb:c.by_=(k:Int)) (hk:(zs cs)[k]? =some [ni (j:Int)]) (ht:0≤t∧t≤1048576) (ck:PureT PP 44 (hA_ cs L) [.lp 2 0] (.io 3 (hA_ cs L) (ni t))) (q:CQ) (hq:q={c with seq:=(j:Int),tick:=t+1}) {cs':List Int} {L':List CQ} {f:Bool} {D:List HO×V}
 (tk:PT cs L q (aD cs' L' f v)) (hv:(v != 0)=true):PM cs L c (.io 3 (hA_ cs' L') (.tu [.ag zlC,ni v])):=by
 have h1:decide (c.by_<0)=false:=decide_eq_false (by omega)
 have h2:decide (c.by_≥((zs cs).length:Int))=false:=decide_eq_false (by have:=(List.getElem?_eq_some_iff.1 hk).1;omega)
 have ow:=e_own c.cm hn
 have ckx:Ext PP (mkC1 #[TPA]) [.cl 44 [],.lp 2 0] (lrd (hA_ cs L) 0) [] (ni t):=x_lend0 ck (by kernel_rfl)
 subst hq
 unfold PT aD at tk
 unfold PM
 unfold hA_ at*
 generalize mpL L=M at*
 generalize mpL L'=M' at*
 exact trT [pnA 9 2,nf,na h1,nk 19 2,na h2,cl ow,nk 29 2,.eqv 33 (ni c.by_) (ni (k:Int)) (by rw[hb]),.sel _ _ _ hk,.sel _ _ _ hk,.ext (some 37) _ _ _ _ _ ckx,wq 38 (t+1) (t+1) (by omega),.lend _ _ _ _ [0,1,2] tk,ye hv] (by kernel_rfl)
theorem mk_ok (hn:c.refs.length≤1000) (hb:c.by_=(k:Int)) (hk:(zs cs)[k]? =some [ni (j:Int)]) (ht:0≤t∧t≤1048576) (ck:PureT PP 44 (hA_ cs L) [.lp 2 0] (.io 3 (hA_ cs L) (ni t))) (q:CQ) (hq:q={c with seq:=(j:Int),tick:=t+1}) {cs':List Int} {L':List CQ} {f:Bool}
 (tk:PT cs L q (aD cs' L' f 0)):PM cs L c (.io 3 (hA_ cs' L') (.tu [.ag (dQ q),ni 0])):=by
 have h1:decide (c.by_<0)=false:=decide_eq_false (by omega)
 have h2:decide (c.by_≥((zs cs).length:Int))=false:=decide_eq_false (by have:=(List.getElem?_eq_some_iff.1 hk).1;omega)
 have ow:=e_own c.cm hn
 have ckx:Ext PP (mkC1 #[TPA]) [.cl 44 [],.lp 2 0] (lrd (hA_ cs L) 0) [] (ni t):=x_lend0 ck (by kernel_rfl)
 subst hq
 unfold PT aD at tk
 unfold PM
 unfold hA_ at*
 generalize mpL L=M at*
 generalize mpL L'=M' at*
 exact trT [pnA 9 2,nf,na h1,nk 19 2,na h2,cl ow,nk 29 2,.eqv 33 (ni c.by_) (ni (k:Int)) (by rw[hb]),.sel _ _ _ hk,.sel _ _ _ hk,.ext (some 37) _ _ _ _ _ ckx,wq 38 (t+1) (t+1) (by omega),.lend _ _ _ _ [0,1,2] tk,nf] (by kernel_rfl)
/-- The error of Make, its claim, what is there behind it. -/
noncomputable def mkE (n:Nat) (L:List CQ) (c:CQ):Int:=if 0≤c.by_∧c.by_<(n:Int)then tkE n L (mkQ n L c)else 1
noncomputable def mkV (n:Nat) (L:List CQ) (c:CQ):List V:=if mkE n L c=0 then dQ (mkQ n L c)else zlC
noncomputable def mkL (n:Nat) (L:List CQ) (c:CQ):List CQ:=if mkE n L c=0 then tkL n L (mkQ n L c)else L
theorem e_makeA (ha:Arc n L) (hc:Sq c) (hf:FBits 100 c.cm.fit):PM (cnts n L) L c (.io 3 (hA_ (cnts n (mkL n L c)) (mkL n L c)) (.tu [.ag (mkV n L c),ni (mkE n L c)])):=by
 have zc:=zs_cnts (n:=n) (L:=L)
 by_cases hb:0≤c.by_∧c.by_<(n:Int)
 · have e:mkE n L c=tkE n L (mkQ n L c):=if_pos hb
   obtain⟨k,hk⟩:∃ k:Nat,c.by_=(k:Int):=⟨c.by_.toNat,by omega⟩
   have s1:=cnts_at (L:=L) (n:=n) (k:=k) (by omega)
   have tk:=e_take ha (mkQ_sq ha hc) (c:=mkQ n L c) hf
   have ck:=e_clock ha
   have cl_:=clk_le ha n
   have hn:c.refs.length≤1000:=by have:=hc.n;omega
   have hq:mkQ n L c={c with seq:=((chn L (k:Int)).length:Int),tick:=clkP L n+1}:=by unfold mkQ;rw[hk]
   by_cases h0:tkE n L (mkQ n L c)=0
   · have h1:mkE n L c=0:=e.trans h0
     have e1:mkV n L c=dQ (mkQ n L c):=if_pos h1
     have e2:mkL n L c=tkL n L (mkQ n L c):=if_pos h1
     rw[e1,e2,h1]
     rw[h0]at tk
     exact mk_ok hn hk s1 cl_ ck _ hq tk
   · have h1:¬mkE n L c=0:=fun h=>h0 (e.symm.trans h)
     have e1:mkV n L c=zlC:=if_neg h1
     have e2:mkL n L c=L:=if_neg h1
     obtain⟨g1,g2⟩:=tkL_e h0
     rw[g1]at tk
     rw[e1,e2,e]
     exact mk_some (D:=([],.un)) hn hk s1 cl_ ck _ hq tk (by simpa using h0)
 · have e:mkE n L c=1:=if_neg hb
   have h1:¬mkE n L c=0:=by rw[e];decide
   have e1:mkV n L c=zlC:=if_neg h1
   have e2:mkL n L c=L:=if_neg h1
   rw[e1,e2,e]
   by_cases h:c.by_<0
   · exact mk_neg h
   · exact mk_big (by omega) (by omega)
theorem mkL_arc (ha:Arc n L) (hc:Sq c) (hf:FBits 100 c.cm.fit):Arc n (mkL n L c):=by
 unfold mkL
 split
 · exact tkL_arc ha (mkQ_sq ha hc) hf
 · exact ha
/-- The claims of the first museums. -/
def allP (L:List CQ):Nat→List CQ
 |0=>[]
 |k+1=>allP L k++chn L (k:Int)
theorem allP_mem:∀ k,q∈allP L k↔q∈L∧0≤q.by_∧q.by_<(k:Int)
 |0=>⟨fun h=>(by cases h),fun h=>absurd h.2 (by omega)⟩
 |k+1=>by
  unfold allP
  rw[List.mem_append,allP_mem k,chn_mem]
  constructor
  · rintro (h|h)
    · exact⟨h.1,by omega⟩
    · exact⟨h.1,by omega⟩
  · intro h
    by_cases e:q.by_=(k:Int)
    · exact .inr ⟨h.1,e⟩
    · exact .inl ⟨h.1,by omega⟩
theorem allP_len (ha:Arc n L):∀ k,k≤5→(allP L k).length≤200*k
 |0,_=>Nat.le_refl _
 |k+1,h=>by
  have:=allP_len ha k (by omega)
  have:=chn_le L (k:Int)
  have:=ha.len
  unfold allP
  rw[List.length_append]
  omega
theorem allP_sorted (ha:Arc n L):sorted (allP L n)=sorted L:=
 sorted_same ha.sq fun q=>by
  rw[allP_mem]
  refine⟨fun h=>h.1,fun h=>⟨h, ?_,ha.by_ q h⟩⟩
  have:=va_0 (ha.va q h)
  exact this.2.1
noncomputable abbrev fCs:Func:=fnOf PP 18
noncomputable def clX (cs:List Int) (M:List CQ) (n:Nat) (A:List CQ) (k:Nat):St:=at_ fCs [(0,.lp 2 0),(3,.ow 3),(13,.ow 0),(14,ni n),(15,ni k)] (hB_ cs M A)
noncomputable def clY (cs:List Int) (M:List CQ) (n:Nat) (A C:List CQ) (k j:Nat):St:=at_ fCs [(0,.lp 2 0),(3,.ow 3),(13,.ow 0),(14,ni n),(15,ni k),(23,slQ C),(24,ni C.length),(25,ni j)] (hB_ cs M (A++C.take j))
abbrev GCs (D:RD) (td:List Item) (σ:St):Prop:=Gd PP 18 D td σ
theorem cl_in {D:List HO×V} (hC:∀ q∈C,q.refs.length≤1000) (hn:(A++C).length≤2000) (hk:k<1000) (next:GCs (.io 3 D.1 D.2) (lp fCs 0) (clX cs M n (A++C) (k+1))):GCs (.io 3 D.1 D.2) (lp fCs 1) (clY cs M n A C k 0):=by
 have ll:(C.map dQ).length=C.length:=List.length_map ..
 rw[List.length_append]at hn
 refine Gd.loop (clY cs M n A C k) (fun j=>j≤C.length) (fun j=>C.length - j) ?_ 0 (Nat.zero_le _)
 intro j hj ih
 by_cases h:j<C.length
 · have lt:decide ((j:Int)<(C.length:Int))=true:=decide_eq_true (by omega)
   obtain⟨q,hq⟩:∃ q,C[j]? =some q:=⟨_,List.getElem?_eq_getElem h⟩
   have s1:=dQ_at hq
   have ow:=e_own q.cm (hC q (List.mem_of_getElem? hq))
   have nx:=ih (j+1) h (by omega)
   have ap:(A++C.take j).map dQ++[dQ q]=(A++C.take (j+1)).map dQ:=by rw[List.take_add_one,hq,←List.append_assoc,List.map_append (l₁:=A++C.take j)];rfl
   have al:((A++C.take (j+1)).map dQ).length≤2000:=by rw[List.length_map,List.length_append,List.length_take];omega
   unfold clY hB_ slQ at nx⊢
   generalize mpL M=MM at*
   generalize (A++C.take j).map dQ=R at*
   generalize (A++C.take (j+1)).map dQ=R2 at*
   exact .to mo_ [.mv 3 6] [0,3,13,14,15,23,24,25] [0,1,2,3] 4 [ye lt,.sel _ _ _ s1,cl ow,.app _ _ _ 2000 ap (Nat.zero_lt_succ _) al,inc 34 j (by omega)] nx (by kernel_rfl)
 · have lt:decide ((j:Int)<(C.length:Int))=false:=decide_eq_false (by omega)
   have:j=C.length:=by omega
   subst this
   unfold clY
   rw[List.take_length]
   unfold clX hB_ at next
   unfold hB_ slQ
   generalize mpL M=MM at*
   generalize (A++C).map dQ=R at*
   exact .to mo_ [] [0,3,13,14,15] [0,1,2,3] 4 [na lt,inc 35 k (by omega)] next (by kernel_rfl)
abbrev hD_ (cs:List Int) (M A S:List CQ):List HO:=[.rw TI 1 (zs cs),.mp (mpL M),.bx TArc [.ow 0,.nm 1],.fz (slQ A),.rw TCl 35 (S.map dQ)]
theorem e_claims (ha:Arc n L) (hM:∀ p,fnd M p=fnd L p):PureT PP 18 (hA_ (cnts n L) M) [.lp 2 0] (.io 3 (hD_ (cnts n L) M (allP L n) (sorted L)) (.ow 4)):=by
 have n1:=ha.n1
 have ln:ni ((zs (cnts n L)).length:Int)=ni (n:Int):=by rw[zs_cnts]
 refine pfT (by kernel_rfl) (.to mo_ [.ow 3 (.rw TCl 35 [])] [0,3,13,14,15] [0,1,2,3] 4 [pnA 9 2,nf,nk 11 2,.eqv 14 _ _ ln] (td':=lp fCs 0) (σ':=clX (cnts n L) M n (allP L 0) 0) ?_ (by kernel_rfl))
 refine Gd.loop (fun k=>clX (cnts n L) M n (allP L k) k) (fun k=>k≤n) (fun k=>n - k) ?_ 0 (Nat.zero_le _)
 intro k hk ih
 have al:=allP_len ha k (by omega)
 by_cases h:k<n
 · have lt:decide ((k:Int)<(n:Int))=true:=decide_eq_true (by omega)
   have s1:=cnts_at (L:=L) h
   have nx:=ih (k+1) h (by omega)
   have cl_:=chn_le L (k:Int)
   have len:=ha.len
   have ch:=e_chain (cs:=cnts n L) (M:=M) (b:=(k:Int)) (C:=chn L (k:Int)) (fun j q hq=>by rw[hM];exact fnd_chn ha hq) (by omega)
   have g:=cl_in (cs:=cnts n L) (M:=M) (n:=n) (A:=allP L k) (C:=chn L (k:Int)) (k:=k) (D:=(hD_ (cnts n L) M (allP L n) (sorted L),.ow 4)) (fun q hq=>by have:=(chn_sq ha q hq).n;omega) (by rw[List.length_append];omega) (by omega) nx
   have e24:ni (((chn L (k:Int)).map dQ).length:Int)=ni ((chn L (k:Int)).length:Int):=by rw[List.length_map]
   unfold clY at g
   rw[List.take_zero,List.append_nil]at g
   unfold clX
   unfold hB_ slQ at*
   generalize (chn L (k:Int)).map dQ=CC at*
   generalize (chn L (k:Int)).length=m at*
   generalize mpL M=MM at*
   generalize zs (cnts n L)=Z at*
   generalize (allP L k).map dQ=R at*
   exact .to mo_ [.fz 23] [0,3,13,14,15,23,24,25] [0,1,2,3] 4 [ye lt,.sel _ _ _ s1,.sel _ _ _ s1,.lend _ _ _ _ [0,1,2] ch,.eqv 24 _ _ e24] g (by kernel_rfl)
 · have lt:decide ((k:Int)<(n:Int))=false:=decide_eq_false (by omega)
   have:k=n:=by omega
   subst this
   have so:=e_csort (L:=allP L k) (fun q hq=>ha.sq q ((allP_mem k).1 hq).1) (by omega)
   rw[allP_sorted ha]at so
   unfold clX
   unfold hB_ hD_ slQ
   generalize mpL M=MM at*
   generalize (allP L k).map dQ=R at*
   generalize (sorted L).map dQ=R2 at*
   exact fi [na lt,cl so] (by kernel_rfl) (by kernel_rfl)
end
end Go.Proofs.YtmgagedefmmloaaGreatDoor.E.Ca
namespace Go.Proofs.YtmgagedefmmloaaGreatDoor.E.Ca
open Go.RowKit
set_option linter.unusedVariables false
set_option linter.unusedSimpArgs false
section
variable {q r:CQ} {A B C L S O:List CQ} {a i k n:Nat} {l m:List Int} {turn:Int}
theorem find_map (L:List CQ):L.map dQ=(L.map CQ.cm).map dC:=by rw[List.map_map];rfl
end
end Go.Proofs.YtmgagedefmmloaaGreatDoor.E.Ca
namespace Go.Proofs.YtmgagedefmmloaaGreatDoor.E.Ca
open Go.RowKit Hs
set_option linter.unusedVariables false
set_option linter.unusedSimpArgs false
section
variable {L M C A l:List CQ} {p:Int×Int} {q r c o:CQ} {b:Int} {i j k n:Nat} {cs:List Int} {t:Int} {G:FuncId} {c0_:List V} {del:CM→Bool}
noncomputable abbrev fDF:Func:=fnOf PP 63
noncomputable def dX (G:FuncId) (c0_:List V) (R:List CQ) (i j:Nat):St:=at_ fDF [(0,.ow 0),(1,.cl G [.ip c0_]),(5,ni i),(6,ni j)] [.rw TCl 35 (R.map dQ)]
def kpt (del:CM→Bool) (L:List CQ):List CQ:=L.filter fun q=> !del q.cm
abbrev dE (W:List CQ):RD:= .io 1 [.dead,.rw TCl 35 (W.map dQ)] (.ow 1)
theorem kpt_next (h:A[j]? =some q):kpt del (A.take (j+1))=kpt del (A.take j)++(if del q.cm then[]else[q]):=by
 unfold kpt
 rw[List.take_add_one,h,List.filter_append]
 cases hd:del q.cm<;>simp[hd]
theorem kpt_le (A:List CQ) (j:Nat):(kpt del (A.take j)).length≤j:=by
 unfold kpt
 have:=List.length_filter_le (fun q:CQ=> !del q.cm) (A.take j)
 rw[List.length_take]at this
 omega
theorem df_end (hC:kpt del A=C) (h1:C.length<A.length) (hn:A.length<1000000):
  Gd PP 63 (dE C) (lp fDF 0) (dX G c0_ (rC C A) C.length A.length):=by
 have rl:((rC C A).map dQ).length=A.length:=by rw[List.length_map,rC_len (by omega)]
 have lt:decide ((A.length:Int)<(((rC C A).map dQ).length:Int))=false:=decide_eq_false (by omega)
 have tk:((rC C A).map dQ).take C.length=C.map dQ:=by
  unfold rC
  rw[List.map_append,List.take_left' (List.length_map ..)]
 have tk2:(((rC C A).map dQ).take C.length++List.replicate (A.length - C.length) zlC).take C.length=C.map dQ:=by
  rw[List.take_append_of_le_length (by rw[List.length_take];omega),List.take_take,Nat.min_self,tk]
 have ll:C.length≤(((rC C A).map dQ).take C.length++List.replicate (A.length - C.length) zlC).length:=by rw[List.length_append,List.length_take];omega
 unfold dX dE
 generalize (rC C A).map dQ=RM at*
 have cl_:=xcl (b:=0) (l:=RM) rl h1 rfl
 generalize RM.take C.length++List.replicate (A.length - C.length) zlC=RN at*
 generalize C.map dQ=W at*
 exact fi [na lt,.slo RM C.length RM.length ⟨by omega,by omega⟩ (by omega),.eqv 38 (.os 0 35 C.length RM.length) (.os 0 35 C.length A.length) (by rw[rl]),.ext none _ _ _ _ _ cl_,.trn RN W C.length tk2 ll] (by kernel_rfl) (by kernel_rfl)
theorem df_in (hd:∀ a∈A,Pure PP G [.ag (dQ a),.ip c0_] (bo (del a.cm))) (hn:A.length<1000000) (hj:j≤A.length) (h1:(kpt del (A.take j)).length<j):
  Gd PP 63 (dE (kpt del A)) (lp fDF 0) (dX G c0_ (rC (kpt del (A.take j)) A) (kpt del (A.take j)).length j):=by
 refine Gd.loop (fun j=>dX G c0_ (rC (kpt del (A.take j)) A) (kpt del (A.take j)).length j) (fun j=>j≤A.length∧(kpt del (A.take j)).length<j) (fun j=>A.length - j) ?_ j ⟨hj,h1⟩
 intro j ⟨hj,h1⟩ ih
 by_cases h:j<A.length
 · obtain⟨q,hq⟩:∃ q,A[j]? =some q:=⟨_,List.getElem?_eq_getElem h⟩
   have rl:((rC (kpt del (A.take j)) A).map dQ).length=A.length:=by rw[List.length_map,rC_len (by omega)]
   have lt:decide ((j:Int)<(((rC (kpt del (A.take j)) A).map dQ).length:Int))=true:=decide_eq_true (by omega)
   have s1:=dQ_at ((rC_at (C:=kpt del (A.take j)) (L:=A) (i:=j) (by omega)).trans hq)
   have cc:=hd q (List.mem_of_getElem? hq)
   have kn:=kpt_next (del:=del) hq
   cases hb:del q.cm with
   |true=>
    rw[hb]at cc
    rw[hb,if_pos rfl,List.append_nil]at kn
    have nx:=ih (j+1) ⟨h,by rw[kn];omega⟩ (by omega)
    rw[kn]at nx
    unfold dX at nx⊢
    generalize (rC (kpt del (A.take j)) A).map dQ=RM at*
    exact .to mo_ [] [0,1,5,6] [0] 1 [ye lt,.sel _ _ _ s1,.sel _ _ _ s1,cl cc,nf,inc 21 j (by omega)] nx (by kernel_rfl)
   |false=>
    rw[hb]at cc
    rw[hb,if_neg Bool.false_ne_true]at kn
    have nx:=ih (j+1) ⟨h,by rw[kn,List.length_append];simp only[List.length_cons,List.length_nil];omega⟩ (by omega)
    rw[kn,List.length_append,←rC_set (by omega) q]at nx
    obtain⟨o,ho⟩:∃ o,(rC (kpt del (A.take j)) A)[(kpt del (A.take j)).length]? =some o:=⟨_,List.getElem?_eq_getElem (by rw[rC_len (by omega)];omega)⟩
    have s3:=dQ_at ho
    have up:((rC (kpt del (A.take j)) A).map dQ).set (kpt del (A.take j)).length (dQ q)=((rC (kpt del (A.take j)) A).set (kpt del (A.take j)).length q).map dQ:=(List.map_set ..).symm
    have hi:=kpt_le (del:=del) A j
    unfold dX at nx⊢
    generalize ((rC (kpt del (A.take j)) A).set (kpt del (A.take j)).length q).map dQ=RN at*
    generalize (rC (kpt del (A.take j)) A).map dQ=RM at*
    generalize (kpt del (A.take j)).length=i at*
    exact .to mo_ [] [0,1,5,6] [0] 1 [ye lt,.sel _ _ _ s1,.sel _ _ _ s1,cl cc,yt,.sel _ _ _ s3,.upd _ _ _ _ _ s3 up,inc 35 i (by omega),inc 21 j (by omega)] nx (by kernel_rfl)
 · have:j=A.length:=by omega
   subst this
   rw[List.take_length]at h1⊢
   exact df_end rfl h1 hn
/-- DeleteFunc: nothing goes, or the row is a new one. -/
theorem e_delete (hd:∀ a∈A,Pure PP G [.ag (dQ a),.ip c0_] (bo (del a.cm))) (hn:A.length<1000000):
  (kpt del A=A∧PureT PP 63 [.rw TCl 35 (A.map dQ)] [.ow 0,.cl G [.ip c0_]] (cD A))∨PureT PP 63 [.rw TCl 35 (A.map dQ)] [.ow 0,.cl G [.ip c0_]] (dE (kpt del A)):=by
 have ix:=e_idxC (bad:=del) (A.map CQ.cm) (fun a ha=>by
  obtain⟨x,hx,rfl⟩:=List.mem_map.1 ha
  exact hd x hx)
 have em:(A.map CQ.cm).map dC=A.map dQ:=(find_map A).symm
 rw[em]at ix
 unfold fidx at ix
 cases hf:(A.map CQ.cm).findIdx? del with
 |none=>
  rw[hf]at ix
  rw[List.findIdx?_eq_none_iff]at hf
  refine .inl ⟨List.filter_eq_self.2 fun a ha=>by rw[hf a.cm (List.mem_map.2 ⟨a,ha,rfl⟩)];rfl, ?_⟩
  unfold cD
  generalize A.map dQ=R at*
  exact trT [cl ix,yt] (by kernel_rfl)
 |some i=>
  rw[hf]at ix
  rw[List.findIdx?_eq_some_iff_getElem]at hf
  obtain⟨hi,h1,h2⟩:=hf
  rw[List.length_map]at hi
  have hk:kpt del (A.take i)=A.take i:=List.filter_eq_self.2 fun a ha=>by
   obtain⟨t,ht,rfl⟩:=List.getElem_of_mem ha
   rw[List.length_take]at ht
   have:=h2 t (by omega)
   rw[List.getElem_map]at this
   rw[List.getElem_take]
   simpa using this
  have kn:=kpt_next (del:=del) (A:=A) (j:=i) (List.getElem?_eq_getElem hi)
  rw[List.getElem_map]at h1
  rw[h1,if_pos rfl,List.append_nil,hk]at kn
  have lt:(A.take i).length=i:=by rw[List.length_take];omega
  have g:=df_in (G:=G) (c0_:=c0_) (del:=del) (A:=A) (j:=i+1) hd hn (by omega) (by rw[kn,lt];omega)
  have hr:rC (A.take i) A=A:=by unfold rC;rw[lt];exact List.take_append_drop ..
  rw[kn,lt,hr]at g
  have ne:((i:Int)== -1)=false:=by simp
  refine .inr ?_
  unfold dX at g
  generalize A.map dQ=R at*
  exact pfT (by kernel_rfl) (.to mo_ [] [0,1,5,6] [0] 1 [cl ix,na ne,inc 15 i (by omega)] g (by kernel_rfl))
end
end Go.Proofs.YtmgagedefmmloaaGreatDoor.E.Ca
