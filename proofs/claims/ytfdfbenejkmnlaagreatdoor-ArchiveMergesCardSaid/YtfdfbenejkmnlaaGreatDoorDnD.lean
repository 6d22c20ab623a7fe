/-
 THE REFERENCE'S archive: Want.
-/
import Derived.Test.YtfdfbenejkmnlaaGreatDoorDtB
namespace Go.Proofs.YtfdfbenejkmnlaaGreatDoor.E.Ca
open Go.RowKit
set_option linter.unusedVariables false
set_option linter.unusedSimpArgs false
section
variable {q r:CQ} {L O S:List CQ} {i k n:Nat}
theorem fQ_cases (p:Int×Int) (O:List CQ):(fQ p O= -1∧∀ a∈O,¬a.cm.nm=p)∨∃ (k:Nat) (r:CQ),O[k]? =some r∧r.cm.nm=p∧fQ p O=(k:Int):=by
 unfold fQ fidx
 cases h:O.findIdx? (fun q:CQ=>decide (q.cm.nm=p))with
 |none=>
  rw[List.findIdx?_eq_none_iff]at h
  exact .inl ⟨rfl,fun a ha=>of_decide_eq_false (h a ha)⟩
 |some k=>
  rw[List.findIdx?_eq_some_iff_getElem]at h
  obtain⟨hk,h1,_⟩:=h
  exact .inr ⟨k,O[k],List.getElem?_eq_getElem hk,of_decide_eq_true h1,rfl⟩
noncomputable abbrev fRS:Func:=fnOf PP 23
abbrev GRS (S:List CQ) (td:List Item) (σ:St):Prop:=Gd PP 23 (slQ S) td σ
noncomputable def rs1 (L O:List CQ) (i:Nat):St:=at_ fRS [(0,slQ L),(3,.ow 0),(4,ni i)] [.rw TCl 35 (O.map dQ)]
noncomputable def rs2 (O S:List CQ) (i:Nat):St:=at_ fRS [(3,slQ O),(6,slQ S),(7,ni i)] []
noncomputable def rs3 (O S:List CQ) (i k:Nat):St:=at_ fRS [(3,slQ O),(6,slQ S),(7,ni i),(8,ni k)] []
theorem rs_3 {D:List CQ} (hq:O[i]? =some q) (hS:S.length≤1000) (hi:i<1000) (hk:k≤S.length) (hj:∀ (j:Nat) (r:CQ),k≤j→S[j]? =some r→cmp2 q r<0)
  (next:∀ k,k≤S.length→(∀ (j:Nat) (r:CQ),k≤j→S[j]? =some r→cmp2 q r<0)→(k=0∨∃ r,S[k - 1]? =some r∧¬cmp2 q r<0)→GRS D (lp fRS 1) (rs2 O (putQ S k q) (i+1))):GRS D (lp fRS 2) (rs3 O S i k):=by
 have ll:(S.map dQ).length=S.length:=List.length_map ..
 have s1:=dQ_at hq
 refine Gd.loop (rs3 O S i) (fun k=>k≤S.length∧∀ (j:Nat) (r:CQ),k≤j→S[j]? =some r→cmp2 q r<0) (fun k=>k) ?_ k ⟨hk,hj⟩
 intro k ⟨hk,hj⟩ ih
 have t1:((S.map dQ).take k).drop 0=(S.take k).map dQ:=by rw[List.drop_zero,List.map_take]
 have t2:((S.map dQ).take (S.map dQ).length).drop k=(S.drop k).map dQ:=by rw[List.take_length,List.map_drop]
 have a1:=apw (b:=0) (j:=1) (by omega) [] (S.take k) (by rw[List.nil_append,List.length_take];omega)
 rw[List.nil_append]at a1
 have ap:(S.take k).map dQ++[dQ q]=(S.take k++[q]).map dQ:=by rw[List.map_append];rfl
 have al:((S.take k++[q]).map dQ).length≤2000:=by rw[List.length_map,List.length_append,List.length_take];simp only[List.length_cons,List.length_nil];omega
 have a2:=apz (b:=3) (j:=4) (by omega) (S.take k++[q]) (S.drop k) (by rw[List.length_append,List.length_append,List.length_take,List.length_drop];simp only[List.length_cons,List.length_nil];omega)
 have nx:=next k hk hj
 unfold putQ rs2 slQ at nx
 have b1:k≤(S.map dQ).length:=by omega
 match k,hk,hj,ih,t1,t2,a1,ap,al,a2,nx,b1 with
 |0,hk,hj,ih,t1,t2,a1,ap,al,a2,nx,b1=>
  have nx:=nx (.inl rfl)
  unfold rs3 slQ
  unfold slQ at a1 a2
  generalize (S.take 0).map dQ=A at*
  generalize (S.take 0++[q]).map dQ=A2 at*
  generalize (S.take 0++[q]++S.drop 0).map dQ=A3 at*
  exact .to mo_ [] [3,6,7] [] 0 [na (t:=decide (((0:Nat):Int)>0)) rfl,nf,.slc (S.map dQ) 0 0 35 _ t1 ⟨by omega,by omega⟩ (dQs_z S),.ext (some 83) _ _ _ _ _ a1,.sel _ _ _ s1,.app _ _ _ 2000 ap (Nat.zero_lt_succ _) al,.slc (S.map dQ) 0 (S.map dQ).length 35 _ t2 ⟨by omega,by omega⟩ (dQs_z S),.ext (some 93) _ _ _ _ _ a2,inc 60 i (by omega)] nx (by kernel_rfl)
 |k+1,hk,hj,ih,t1,t2,a1,ap,al,a2,nx,b1=>
  obtain⟨r,hr⟩:∃ r,S[k]? =some r:=⟨_,List.getElem?_eq_getElem (by omega)⟩
  have s2:=dQ_at hr
  have bf:=e_before6 q.cm r.cm
  have gt:decide (((k+1:Nat):Int)>0)=true:=decide_eq_true (by omega)
  cases hb:befB q.cm r.cm with
  |true=>
   rw[hb]at bf
   have nx2:=ih k ⟨by omega,fun j x hj1 hx=>by
    rcases Nat.lt_or_ge k j with h|h
    · exact hj j x h hx
    · have:j=k:=by omega
      subst this
      rw[hr]at hx
      injection hx with hx
      subst hx
      exact of_decide_eq_true hb⟩ (by omega)
   unfold rs3 slQ at nx2⊢
   exact .to mo_ [] [3,6,7,8] [] 0 [ye gt,.sel _ _ _ s1,wq 72 (((k+1:Nat):Int) - 1) (k:Int) (by omega),.sel _ _ _ s2,cl bf,yt,wq 78 (((k+1:Nat):Int) - 1) (k:Int) (by omega)] nx2 (by kernel_rfl)
  |false=>
   rw[hb]at bf
   have nx:=nx (.inr ⟨r,by rw[Nat.add_sub_cancel];exact hr,of_decide_eq_false hb⟩)
   unfold rs3 slQ
   unfold slQ at a1 a2
   generalize (S.take (k+1)).map dQ=A at*
   generalize (S.take (k+1)++[q]).map dQ=A2 at*
   generalize (S.take (k+1)++[q]++S.drop (k+1)).map dQ=A3 at*
   exact .to mo_ [] [3,6,7] [] 0 [ye gt,.sel _ _ _ s1,wq 72 (((k+1:Nat):Int) - 1) (k:Int) (by omega),.sel _ _ _ s2,cl bf,nf,.slc (S.map dQ) 0 (k+1) 35 _ t1 ⟨by omega,by omega⟩ (dQs_z S),.ext (some 83) _ _ _ _ _ a1,.sel _ _ _ s1,.app _ _ _ 2000 ap (Nat.zero_lt_succ _) al,.slc (S.map dQ) (k+1) (S.map dQ).length 35 _ t2 ⟨by omega,by omega⟩ (dQs_z S),.ext (some 93) _ _ _ _ _ a2,inc 60 i (by omega)] nx (by kernel_rfl)
theorem rs_2 (hL:∀ q∈L,Sq q) (ho:Onc L O) (hn:O.length≤900):GRS (sorted L) (lp fRS 1) (rs2 O [] 0):=by
 have ll:(O.map dQ).length=O.length:=List.length_map ..
 refine Gd.loop (fun x:Nat×List CQ=>rs2 O x.2 x.1) (fun x=>x.1≤O.length∧Srd (O.take x.1) x.2) (fun x=>O.length - x.1) ?_ (0,[]) ⟨Nat.zero_le _,Srd.nil⟩
 rintro ⟨i,S⟩ ⟨hi,hS⟩ ih
 simp only at hi hS ih
 by_cases h:i<O.length
 · obtain⟨q,hq⟩:∃ q,O[i]? =some q:=⟨_,List.getElem?_eq_getElem h⟩
   have lt:decide ((i:Int)<((O.map dQ).length:Int))=true:=decide_eq_true (by omega)
   have hl:=hS.ln
   rw[List.length_take]at hl
   have sl_:ni ((S.map dQ).length:Int)=ni (S.length:Int):=by rw[List.length_map]
   have g:=rs_3 (k:=S.length) (D:=sorted L) hq (by omega) (by omega) (Nat.le_refl _) (fun j r hj hr=>by have:=(List.getElem?_eq_some_iff.1 hr).1;omega) fun k hk hj h0=>ih (i+1,putQ S k q) ⟨h,by
    have tk:O.take (i+1)=O.take i++[q]:=by rw[List.take_add_one,hq];rfl
    simp only
    rw[tk]
    refine hS.put (fun a ha e=> ?_) hk hj h0
    obtain⟨j,hj,rfl⟩:=List.getElem_of_mem ha
    rw[List.length_take]at hj
    rw[List.getElem_take]at e
    obtain⟨l2,g2⟩:=List.getElem?_eq_some_iff.1 hq
    have pw:=List.pairwise_iff_getElem.1 ho.nd j i (by omega) l2 (by omega)
    rw[g2]at pw
    exact pw e⟩ (by simp only;omega)
   unfold rs3 at g
   unfold rs2
   unfold slQ at*
   exact .to mo_ [] [3,6,7,8] [] 0 [ye lt,.eqv 8 _ _ sl_] g (by kernel_rfl)
 · have lt:decide ((i:Int)<((O.map dQ).length:Int))=false:=decide_eq_false (by omega)
   have hi2:i=O.length:=by omega
   subst hi2
   rw[List.take_length]at hS
   have e:=Srd.done hL ho hS
   subst e
   unfold rs2
   unfold slQ
   exact fi [na lt] (by kernel_rfl) (by kernel_rfl)
theorem rs_1 (hL:∀ q∈L,Sq q) (hn:L.length≤900):GRS (sorted L) (lp fRS 0) (rs1 L [] 0):=by
 have ll:(L.map dQ).length=L.length:=List.length_map ..
 refine Gd.loop (fun x:Nat×List CQ=>rs1 L x.2 x.1) (fun x=>x.1≤L.length∧Onc (L.take x.1) x.2) (fun x=>L.length - x.1) ?_ (0,[]) ⟨Nat.zero_le _,Onc.nil⟩
 rintro ⟨i,O⟩ ⟨hi,ho⟩ ih
 simp only at hi ho ih
 by_cases h:i<L.length
 · obtain⟨q,hq⟩:∃ q,L[i]? =some q:=⟨_,List.getElem?_eq_getElem h⟩
   have lt:decide ((i:Int)<((L.map dQ).length:Int))=true:=decide_eq_true (by omega)
   have s1:=dQ_at hq
   have f:=e_rfind O q.cm.nm
   have tk:L.take (i+1)=L.take i++[q]:=by rw[List.take_add_one,hq];rfl
   have hl:=ho.ln
   rw[List.length_take]at hl
   rcases fQ_cases q.cm.nm O with⟨e,hne⟩|⟨k,r,hk,er,e⟩
   · have nx:=ih (i+1,O++[q]) ⟨h,by simp only;rw[tk];exact ho.add hne⟩ (by simp only;omega)
     have ap:O.map dQ++[dQ q]=(O++[q]).map dQ:=by rw[List.map_append];rfl
     have al:((O++[q]).map dQ).length≤2000:=by rw[List.length_map,List.length_append];simp only[List.length_cons,List.length_nil];omega
     rw[e]at f
     unfold rs1 at nx⊢
     unfold slQ at*
     generalize (O++[q]).map dQ=R at*
     generalize O.map dQ=R0 at*
     exact .to mo_ [.mv 0 2] [0,3,4] [0] 1 [ye lt,.sel _ _ _ s1,.sel _ _ _ s1,cl f,yt,.sel _ _ _ s1,.app _ _ _ 2000 ap (Nat.zero_lt_succ _) al,inc 14 i (by omega)] nx (by kernel_rfl)
   · have ge:decide ((k:Int)<0)=false:=decide_eq_false (by omega)
     have hk2:=(List.getElem?_eq_some_iff.1 hk).1
     have s2:=dQ_at hk
     have c1:=Pure.ro (e_cenc6 (hL q (List.mem_of_getElem? hq)))
     have hrm:r∈L:=by
      have:=(ho.fs r (List.mem_of_getElem? hk)).1
      exact List.mem_of_mem_take this
     have c2:=Pure.ro (e_cenc6 (hL r hrm))
     have l1:=e_lower (encC q) (encC r) (by have:=(hL q (List.mem_of_getElem? hq)).len;omega) (by have:=(hL r hrm).len;omega)
     rw[e]at f
     cases hb:lowB (encC q) (encC r)with
     |false=>
      rw[hb]at l1
      have nx:=ih (i+1,O) ⟨h,by simp only;rw[tk];exact ho.keep (List.mem_of_getElem? hk) er hb⟩ (by simp only;omega)
      unfold rs1 at nx⊢
      unfold slQ at*
      generalize O.map dQ=R0 at*
      exact .to mo_ [] [0,3,4] [0] 1 [ye lt,.sel _ _ _ s1,.sel _ _ _ s1,cl f,na ge,.sel _ _ _ s1,cl c1,.sel _ _ _ s2,.sel _ _ _ s2,cl c2,cl l1,nf,inc 14 i (by omega)] nx (by kernel_rfl)
     |true=>
      rw[hb]at l1
      have nx:=ih (i+1,O.set k q) ⟨h,by simp only;rw[tk];exact ho.put hk er hb⟩ (by simp only;omega)
      have up:(O.map dQ).set k (dQ q)=(O.set k q).map dQ:=(List.map_set ..).symm
      unfold rs1 at nx⊢
      unfold slQ at*
      generalize (O.set k q).map dQ=R at*
      generalize O.map dQ=R0 at*
      exact .to mo_ [] [0,3,4] [0] 1 [ye lt,.sel _ _ _ s1,.sel _ _ _ s1,cl f,na ge,.sel _ _ _ s1,cl c1,.sel _ _ _ s2,.sel _ _ _ s2,cl c2,cl l1,yt,.sel _ _ _ s1,.sel _ _ _ s2,.upd _ _ _ _ _ s2 up,inc 14 i (by omega)] nx (by kernel_rfl)
 · have lt:decide ((i:Int)<((L.map dQ).length:Int))=false:=decide_eq_false (by omega)
   have hi2:i=L.length:=by omega
   subst hi2
   rw[List.take_length]at ho
   have g:=rs_2 hL ho (by have:=ho.ln;omega)
   unfold rs2 at g
   unfold rs1
   unfold slQ at*
   exact .to mo_ [.fz 3,.ow 6 (.rw TCl 35 []),.fz 6] [3,6,7] [] 0 [na lt] g (by kernel_rfl)
/-- The reference's Sort. -/
theorem e_rsort (hL:∀ q∈L,Sq q) (hn:L.length≤900):Pure PP 23 [slQ L] (slQ (sorted L)):=
 pf (by kernel_rfl) (.to mo_ [.ow 3 (.rw TCl 35 [])] [0,3,4] [0] 1 [] (td':=lp fRS 0) (σ':=rs1 L [] 0) (rs_1 hL hn) (by kernel_rfl))
end
end Go.Proofs.YtfdfbenejkmnlaaGreatDoor.E.Ca
namespace Go.Proofs.YtfdfbenejkmnlaaGreatDoor.E.Ca
open Go.RowKit Hs
set_option linter.unusedVariables false
set_option linter.unusedSimpArgs false
section
variable {L M C A l:List CQ} {p:Int×Int} {q r c o:CQ} {b:Int} {i j k m n:Nat} {W:DG} {t:Int}
theorem tx_lens (W W':DG):∀ p∈[tx W,tx W'],0<p.length∧p.length≤100000000:=fun p hp=>by
 simp only[List.mem_cons,List.not_mem_nil,or_false]at hp
 rcases hp with rfl|rfl<;>rw[tx_len]<;>omega
abbrev TRA:Nat:= 25
abbrev TRH:Nat:= 117
noncomputable abbrev aR (n:Nat) (L:List CQ):List V:=[ni (n:Int),slQ L]
noncomputable abbrev fRC:Func:=fnOf PP 27
noncomputable def rcX (n:Nat) (L:List CQ) (b:Int) (A:List CQ) (i:Nat):St:=at_ fRC [(1,ni b),(2,.lp 0 0),(5,.ow 1),(6,ni i)] [.bx TRA (aR n L),.rw TCl 35 (A.map dQ)]
theorem e_rchain (hn:L.length≤1000):Pure PP 27 [.ag (aR n L),ni b] (slQ (chn L b)):=by
 have ll:(L.map dQ).length=L.length:=List.length_map ..
 refine pf (by kernel_rfl) (.to mo_ [.ow 5 (.rw TCl 35 [])] [1,2,5,6] [0,1] 2 [] (td':=lp fRC 0) (σ':=rcX n L b (chn (L.take 0) b) 0) ?_ (by kernel_rfl))
 refine Gd.loop (fun i=>rcX n L b (chn (L.take i) b) i) (fun i=>i≤L.length) (fun i=>L.length - i) ?_ 0 (Nat.zero_le _)
 intro i hi ih
 by_cases h:i<L.length
 · have lt:decide ((i:Int)<((L.map dQ).length:Int))=true:=decide_eq_true (by omega)
   obtain⟨q,hq⟩:∃ q,L[i]? =some q:=⟨_,List.getElem?_eq_getElem h⟩
   have s1:=dQ_at hq
   have nx:=ih (i+1) h (by omega)
   have tk:L.take (i+1)=L.take i++[q]:=by rw[List.take_add_one,hq];rfl
   rw[tk,chn_app]at nx
   by_cases e:q.by_=b
   · have eb:(q.by_==b)=true:=by simpa using e
     rw[if_pos e]at nx
     have ap:(chn (L.take i) b).map dQ++[dQ q]=(chn (L.take i) b++[q]).map dQ:=by rw[List.map_append];rfl
     have al:((chn (L.take i) b++[q]).map dQ).length≤2000:=by
      have:=chn_le (L.take i) b
      rw[List.length_take]at this
      rw[List.length_map,List.length_append]
      simp only[List.length_cons,List.length_nil]
      omega
     unfold rcX aR slQ at nx⊢
     generalize (chn (L.take i) b++[q]).map dQ=R2 at*
     generalize (chn (L.take i) b).map dQ=R at*
     exact .to mo_ [.mv 1 3] [1,2,5,6] [0,1] 2 [ye lt,.sel _ _ _ s1,ye eb,.sel _ _ _ s1,.app _ _ _ 2000 ap (Nat.zero_lt_succ _) al,inc 13 i (by omega)] nx (by kernel_rfl)
   · have eb:(q.by_==b)=false:=by simpa using e
     rw[if_neg e]at nx
     unfold rcX aR slQ at nx⊢
     generalize (chn (L.take i) b).map dQ=R at*
     exact .to mo_ [] [1,2,5,6] [0,1] 2 [ye lt,.sel _ _ _ s1,na eb,inc 13 i (by omega)] nx (by kernel_rfl)
 · have lt:decide ((i:Int)<((L.map dQ).length:Int))=false:=decide_eq_false (by omega)
   rw[List.take_of_length_le (by omega)]
   unfold rcX aR slQ
   exact fi [na lt] (by kernel_rfl) (by kernel_rfl)
def rclk (L:List CQ):Int:=L.foldl (fun m q=>max m q.tick) 0
noncomputable abbrev fRK:Func:=fnOf PP 28
noncomputable def rkX (n:Nat) (L:List CQ) (t:Int) (k:Nat):St:=at_ fRK [(1,.lp 0 0),(3,ni t),(4,ni k)] [.bx TRA (aR n L)]
theorem e_rclock (hn:L.length≤1000):Pure PP 28 [.ag (aR n L)] (ni (rclk L)):=by
 have ll:(L.map dQ).length=L.length:=List.length_map ..
 refine pf (by kernel_rfl) (.to mo_ [] [1,3,4] [0] 1 [] (td':=lp fRK 0) (σ':=rkX n L (rclk (L.take 0)) 0) ?_ (by kernel_rfl))
 refine Gd.loop (fun k=>rkX n L (rclk (L.take k)) k) (fun k=>k≤L.length) (fun k=>L.length - k) ?_ 0 (Nat.zero_le _)
 intro k hk ih
 by_cases h:k<L.length
 · have lt:decide ((k:Int)<((L.map dQ).length:Int))=true:=decide_eq_true (by omega)
   obtain⟨q,hq⟩:∃ q,L[k]? =some q:=⟨_,List.getElem?_eq_getElem h⟩
   have s1:=dQ_at hq
   have nx:=ih (k+1) h (by omega)
   have e:rclk (L.take (k+1))=max (rclk (L.take k)) q.tick:=by
    unfold rclk
    rw[List.take_add_one,hq,List.foldl_append]
    rfl
   rw[e]at nx
   unfold rkX aR slQ at nx⊢
   generalize rclk (L.take k)=t at*
   exact .to mo_ [] [1,3,4] [0] 1 [ye lt,.sel _ _ _ s1,.eqv 19 _ _ (mx_ t q.tick),inc 11 k (by omega)] nx (by kernel_rfl)
 · have lt:decide ((k:Int)<((L.map dQ).length:Int))=false:=decide_eq_false (by omega)
   rw[List.take_of_length_le (by omega)]
   unfold rkX aR slQ
   exact fi [na lt] (by kernel_rfl) (by kernel_rfl)
end
end Go.Proofs.YtfdfbenejkmnlaaGreatDoor.E.Ca
namespace Go.Proofs.YtfdfbenejkmnlaaGreatDoor.E.Ca
open Go.RowKit Hs
set_option linter.unusedVariables false
set_option linter.unusedSimpArgs false
section
variable {L M C A l:List CQ} {p:Int×Int} {q r c o x:CQ} {b:Int} {i j k m n:Nat} {t v:Int} {late f:Bool}
theorem fQ_fnd (ha:Arc n L) (p:Int×Int):(fQ p L= -1∧fnd L p=none)∨∃ (k:Nat) (r:CQ),L[k]? =some r∧fnd L p=some r∧fQ p L=(k:Int):=by
 rcases fQ_cases p L with⟨h1,h2⟩|⟨k,r,h1,h2,h3⟩
 · refine .inl ⟨h1, ?_⟩
   cases h:fnd L p with
   |none=>rfl
   |some q=>exact absurd (fnd_mem h).2 (h2 q (fnd_mem h).1)
 · refine .inr ⟨k,r,h1, ?_,h3⟩
   rw[←h2]
   exact fnd_of ha (List.mem_of_getElem? h1)
noncomputable abbrev fRE:Func:=fnOf PP 26
abbrev eD (e:Int) (f:Bool):V:= .tu [ni e,bo f]
abbrev PE (n:Nat) (L:List CQ) (c:CQ) (d:V):Prop:=Pure PP 26 [.ag (aR n L),.ag (dQ c)] d
abbrev GE (d:V) (td:List Item) (σ:St):Prop:=Gd PP 26 d td σ
noncomputable def reX (n:Nat) (L:List CQ) (c:CQ) (late:Bool) (i:Nat):St:=at_ fRE [(2,.lp 0 0),(3,.lp 1 0),(9,bo late),(10,ni i)] [.bx TRA (aR n L),.bx TCl (dQ c)]
abbrev PV6 (c:CQ) (v:Int):Prop:=Pure PP 66 [.ag (dQ c)] (ni v)
theorem er_inv (hv:PV6 c v) (h:(v != 0)=true):PE n L c (eD v false):=tr [cl hv,ye h] (by kernel_rfl)
theorem er_by (hv:PV6 c 0) (h:(n:Int)≤c.by_):PE n L c (eD 1 false):=tr [cl hv,nf,ye (t:=decide (c.by_≥(n:Int))) (decide_eq_true h)] (by kernel_rfl)
theorem er_had (hv:PV6 c 0) (h:¬(n:Int)≤c.by_) (hk:L[k]? =some c) (hf:fQ c.cm.nm L=(k:Int)):PE n L c (eD 0 true):=by
 have f:=e_rfind L c.cm.nm
 rw[hf]at f
 have s1:=dQ_at hk
 have sm:=e_csame6 c c
 rw[decide_eq_true (eqP_iff.2 rfl)]at sm
 have ge:decide ((k:Int)≥0)=true:=decide_eq_true (by omega)
 unfold PE aR
 unfold slQ at*
 exact tr [cl hv,nf,na (t:=decide (c.by_≥(n:Int))) (decide_eq_false h),cl f,ye ge,.sel _ _ _ s1,cl sm,yt] (by kernel_rfl)
theorem er_two (hv:PV6 c 0) (h:¬(n:Int)≤c.by_) (hk:L[k]? =some o) (hf:fQ c.cm.nm L=(k:Int)) (e:o≠c):PE n L c (eD 7 false):=by
 have f:=e_rfind L c.cm.nm
 rw[hf]at f
 have s1:=dQ_at hk
 have sm:=e_csame6 o c
 rw[decide_eq_false (fun g=>e (eqP_iff.1 g))]at sm
 have ge:decide ((k:Int)≥0)=true:=decide_eq_true (by omega)
 unfold PE aR
 unfold slQ at*
 exact tr [cl hv,nf,na (t:=decide (c.by_≥(n:Int))) (decide_eq_false h),cl f,ye ge,.sel _ _ _ s1,cl sm,nf,ye ge] (by kernel_rfl)
theorem er_seq (hL:L.length≤1000) (hv:PV6 c 0) (h:¬(n:Int)≤c.by_) (hf:fQ c.cm.nm L= -1) (hs:c.seq≠((chn L c.by_).length:Int)):PE n L c (eD 10 false):=by
 have f:=e_rfind L c.cm.nm
 rw[hf]at f
 have ch:=e_rchain (n:=n) (b:=c.by_) hL
 have e50:ni (((chn L c.by_).map dQ).length:Int)=ni ((chn L c.by_).length:Int):=by rw[List.length_map]
 have ne:(c.seq != ((chn L c.by_).length:Int))=true:=by simpa using hs
 unfold PE aR
 unfold aR slQ at*
 generalize (chn L c.by_).map dQ=CC at*
 exact tr [cl hv,nf,na (t:=decide (c.by_≥(n:Int))) (decide_eq_false h),cl f,nf,nf,nf,cl ch,.eqv 50 _ _ e50,ye ne] (by kernel_rfl)
theorem er_go (hL:L.length≤1000) (hv:PV6 c 0) (h:¬(n:Int)≤c.by_) (hf:fQ c.cm.nm L= -1) (hm:(chn L c.by_).length=m) (hs:c.seq=(m:Int)) {d:V} (h0:m=0→GE d (lp fRE 0) (reX n L c false 0)) (h1:∀ x,0<m→(chn L c.by_)[m - 1]? =some x→GE d (lp fRE 0) (reX n L c (decide (x.tick≥c.tick)) 0)):PE n L c d:=by
 have f:=e_rfind L c.cm.nm
 rw[hf]at f
 have ch:=e_rchain (n:=n) (b:=c.by_) hL
 have e50:ni (((chn L c.by_).map dQ).length:Int)=ni (m:Int):=by rw[List.length_map,hm]
 have ne:(c.seq != (m:Int))=false:=by rw[hs];simp
 have cl_:=chn_le L c.by_
 by_cases hm0:m=0
 · have g:=h0 hm0
   have gt:decide ((m:Int)>0)=false:=decide_eq_false (by omega)
   unfold PE aR
   unfold reX at g
   unfold aR slQ at*
   generalize (chn L c.by_).map dQ=CC at*
   exact pf (by kernel_rfl) (.to mo_ [] [2,3,9,10] [0,1] 2 [cl hv,nf,na (t:=decide (c.by_≥(n:Int))) (decide_eq_false h),cl f,nf,nf,nf,cl ch,.eqv 50 _ _ e50,na ne,.eqv 53 _ _ e50,na gt] g (by kernel_rfl))
 · obtain⟨x,hx⟩:∃ x,(chn L c.by_)[m - 1]? =some x:=⟨_,List.getElem?_eq_getElem (by omega)⟩
   have g:=h1 x (by omega) hx
   have gt:decide ((m:Int)>0)=true:=decide_eq_true (by omega)
   have s1:=dQ_at hx
   unfold PE aR
   unfold reX at g
   unfold aR slQ at*
   generalize (chn L c.by_).map dQ=CC at*
   exact pf (by kernel_rfl) (.to mo_ [] [2,3,9,10] [0,1] 2 [cl hv,nf,na (t:=decide (c.by_≥(n:Int))) (decide_eq_false h),cl f,nf,nf,nf,cl ch,.eqv 50 _ _ e50,na ne,.eqv 53 _ _ e50,ye gt,.eqv 58 (ni c.seq) (ni (m:Int)) (by rw[hs]),wq 59 ((m:Int) - 1) ((m - 1:Nat):Int) (by omega),.sel _ _ _ s1] g (by kernel_rfl))
theorem er_end (hn:c.refs.length≤1000):GE (eD (if late=true then 5 else if 200≤L.length then 4 else 0) false) (lp fRE 0) (reX n L c late c.refs.length):=by
 have ll:(rfs c.refs).length=c.refs.length:=rfs_len _
 have lL:(L.map dQ).length=L.length:=List.length_map ..
 have lt:decide ((c.refs.length:Int)<((rfs c.refs).length:Int))=false:=decide_eq_false (by omega)
 cases late with
 |true=>
  rw[if_pos rfl]
  unfold reX aR slQ
  exact fi [na lt,yt] (by kernel_rfl) (by kernel_rfl)
 |false=>
  rw[if_neg Bool.false_ne_true]
  by_cases h:200≤L.length
  · rw[if_pos h]
    have ge:decide (((L.map dQ).length:Int)≥200)=true:=decide_eq_true (by omega)
    unfold reX aR slQ
    exact fi [na lt,nf,ye ge] (by kernel_rfl) (by kernel_rfl)
  · rw[if_neg h]
    have ge:decide (((L.map dQ).length:Int)≥200)=false:=decide_eq_false (by omega)
    unfold reX aR slQ
    exact fi [na lt,nf,na ge] (by kernel_rfl) (by kernel_rfl)
theorem er_in (ha:Arc n L) (hn:c.refs.length≤1000):∀ d i,i+d=c.refs.length→∀ late,GE (if(c.refs.drop i).any (unkB L)=true then eD 10 false else eD (if late=true∨(c.refs.drop i).any (lateB L c)=true then 5 else if 200≤L.length then 4 else 0) false) (lp fRE 0) (reX n L c late i):=by
 intro d
 induction d with
 |zero=>
  intro i hi late
  have:i=c.refs.length:=by omega
  subst this
  have g:=er_end (n:=n) (L:=L) (c:=c) (late:=late) hn
  rw[List.drop_length]
  simpa using g
 |succ d ih=>
  intro i hi late
  have h:i<c.refs.length:=by omega
  have ll:(rfs c.refs).length=c.refs.length:=rfs_len _
  have lt:decide ((i:Int)<((rfs c.refs).length:Int))=true:=decide_eq_true (by omega)
  obtain⟨p,hp⟩:∃ p,c.refs[i]? =some p:=⟨_,List.getElem?_eq_getElem h⟩
  have s1:=rfs_at hp
  have f:=e_rfind L p
  have dr:c.refs.drop i=p::c.refs.drop (i+1):=by
   obtain⟨l1,g1⟩:=List.getElem?_eq_some_iff.1 hp
   rw[List.drop_eq_getElem_cons l1,g1]
  rw[dr,List.any_cons,List.any_cons]
  rcases fQ_fnd ha p with⟨e,hf⟩|⟨k,r,hk,hf,e⟩
  · have u:unkB L p=true:=by unfold unkB;rw[hf];rfl
    rw[u,Bool.true_or,if_pos rfl]
    rw[e]at f
    unfold reX aR
    unfold slQ at*
    exact fi [ye lt,.sel _ _ _ s1,cl f,yt] (by kernel_rfl) (by kernel_rfl)
  · have u:unkB L p=false:=by unfold unkB;rw[hf];rfl
    have lb:lateB L c p=decide (r.tick≥c.tick):=by unfold lateB tickF;rw[hf]
    rw[u,Bool.false_or,lb]
    rw[e]at f
    have ge:decide ((k:Int)<0)=false:=decide_eq_false (by omega)
    have s2:=dQ_at hk
    cases late with
    |true=>
     have nx:=ih (i+1) (by omega) true
     simp only[true_or,if_true]at nx⊢
     generalize (if(c.refs.drop (i+1)).any (unkB L)=true then eD 10 false else eD 5 false)=D at*
     unfold reX aR at nx⊢
     unfold slQ at*
     exact .to mo_ [] [2,3,9,10] [0,1] 2 [ye lt,.sel _ _ _ s1,cl f,na ge,yt,inc 73 i (by omega)] nx (by kernel_rfl)
    |false=>
     have nx:=ih (i+1) (by omega) (decide (r.tick≥c.tick))
     have e2:(if(false=true)∨(decide (r.tick≥c.tick)||(c.refs.drop (i+1)).any (lateB L c))=true then(5:Int)else if 200≤L.length then 4 else 0)=if decide (r.tick≥c.tick)=true∨(c.refs.drop (i+1)).any (lateB L c)=true then 5 else if 200≤L.length then 4 else 0:=by
      cases decide (r.tick≥c.tick)<;>cases (c.refs.drop (i+1)).any (lateB L c)<;>rfl
     rw[e2]
     generalize (if(c.refs.drop (i+1)).any (unkB L)=true then eD 10 false else eD (if decide (r.tick≥c.tick)=true∨(c.refs.drop (i+1)).any (lateB L c)=true then 5 else if 200≤L.length then 4 else 0) false)=D at*
     unfold reX aR at nx⊢
     unfold slQ at*
     exact .to mo_ [] [2,3,9,10] [0,1] 2 [ye lt,.sel _ _ _ s1,cl f,na ge,nf,.sel _ _ _ s2,inc 73 i (by omega)] nx (by kernel_rfl)
/-- Is a claim there already? -/
noncomputable def hadB (n:Nat) (L:List CQ) (c:CQ):Bool:=decide (tkE n L c=0)&&(fnd L c.cm.nm).isSome
open Classical in
theorem e_rerror (ha : Arc n L) (hc : Sq c) (hf : FBits 100 c.cm.fit) : PE n L c (eD (tkE n L c) (hadB n L c)) := by
 have hv:=e_cvalid6 (k:=100) (c:=c.cm) hf (by omega)
 have hL:L.length≤1000:=by have:=ha.len;omega
 have ev:∀ {e:Int},tkE n L c=e→e≠0→PE n L c (eD e false)→PE n L c (eD (tkE n L c) (hadB n L c)):=fun{e} h1 h2 h3=>by
  have f:hadB n L c=false:=by unfold hadB;rw[decide_eq_false (by rw[h1];exact h2)];rfl
  rw[f,h1]
  exact h3
 by_cases h0:validI c.cm≠0
 · refine ev (e:=validI c.cm) (by unfold tkE;rw[if_pos h0]) h0 (er_inv hv ?_)
   simpa using h0
 have h0:=Decidable.not_not.1 h0
 have v:=va_0 h0
 rw[h0]at hv
 by_cases h1:(n:Int)≤c.by_
 · exact ev (e:=1) (by unfold tkE;rw[if_neg (by simp[h0]),if_pos h1]) (by decide) (er_by hv h1)
 rcases fQ_fnd ha c.cm.nm with⟨e,hfn⟩|⟨k,r,hk,hfn,e⟩
 · have hm : (chn L c.by_).length ≤ 200 := Nat.le_trans (chn_le L _) ha.len
   have hn:c.refs.length≤1000:=by have:=v.1;exact Nat.le_trans this (by decide)
   have had:hadB n L c=false:=by unfold hadB;rw[hfn];simp
   have ee:tkE n L c=(if c.seq≠((chn L c.by_).length:Int)∨c.refs.any (unkB L)=true then 10 else if c.refs.any (lateB L c)=true∨(0<c.seq∧lateB L c (c.by_,c.seq - 1)=true)then 5 else if 200≤L.length then 4 else 0):=by unfold tkE;rw[if_neg (by simp[h0]),if_neg h1,hfn]
   by_cases hs:c.seq≠((chn L c.by_).length:Int)
   · exact ev (e:=10) (ee.trans (if_pos (.inl hs))) (by decide) (er_seq hL hv h1 e hs)
   have hs:=Decidable.not_not.1 hs
   rw[had,ee]
   have main : ∀ late : Bool, (late = true ↔ 0 < c.seq ∧ lateB L c (c.by_, c.seq - 1) = true) → GE (eD (if c.seq ≠ ((chn L c.by_).length : Int) ∨ c.refs.any (unkB L) = true then 10 else if c.refs.any (lateB L c) = true ∨ (0 < c.seq ∧ lateB L c (c.by_, c.seq - 1) = true) then 5 else if 200 ≤ L.length then 4 else 0) false) (lp fRE 0) (reX n L c late 0) := fun late hl => by
    have g:=er_in ha hn c.refs.length 0 (by omega) late
    rw[List.drop_zero]at g
    by_cases hu:c.refs.any (unkB L)=true
    · rw[if_pos hu]at g
      rw[if_pos (.inr hu)]
      exact g
    · rw[if_neg hu]at g
      rw[if_neg (fun h=>h.elim (fun h=>h hs) hu)]
      by_cases h5:late=true∨c.refs.any (lateB L c)=true
      · rw[if_pos h5]at g
        rw[if_pos (h5.elim (fun h=> .inr (hl.1 h)) .inl)]
        exact g
      · rw[if_neg h5]at g
        rw[if_neg (fun g=>h5 (g.elim .inr fun g=> .inl (hl.2 g)))]
        exact g
   refine er_go (m:=(chn L c.by_).length) hL hv h1 e rfl hs (fun hm0=>main false ?_) fun x hm0 hx=>main _ ?_
   · constructor
     · intro h;cases h
     · intro h;rw[hs]at h;omega
   · have hfx:fnd L (c.by_,c.seq - 1)=some x:=by
      rw[hs,show(((chn L c.by_).length:Int) - 1)=(((chn L c.by_).length - 1:Nat):Int)by omega]
      exact fnd_chn ha hx
     have lb:lateB L c (c.by_,c.seq - 1)=decide (x.tick≥c.tick):=by unfold lateB tickF;rw[hfx]
     rw[lb]
     exact⟨fun h=>⟨by omega,h⟩,fun h=>h.2⟩
 · have ee:tkE n L c=if r=c then 0 else 7:=by unfold tkE;rw[if_neg (by simp[h0]),if_neg h1,hfn]
   by_cases er:r=c
   · subst er
     have e0:tkE n L r=0:=ee.trans (if_pos rfl)
     have had:hadB n L r=true:=by unfold hadB;rw[hfn,e0];rfl
     rw[e0,had]
     exact er_had hv h1 hk e
   · exact ev (e:=7) (ee.trans (if_neg er)) (by decide) (er_two hv h1 hk e er)
end
end Go.Proofs.YtfdfbenejkmnlaaGreatDoor.E.Ca
namespace Go.Proofs.YtfdfbenejkmnlaaGreatDoor.E.Ca
open Go.RowKit Hs
set_option linter.unusedVariables false
set_option linter.unusedSimpArgs false
section
variable {L M C A l:List CQ} {p:Int×Int} {q r c o x:CQ} {b:Int} {i j k m n:Nat} {t v:Int} {late f:Bool}
noncomputable abbrev fRT:Func:=fnOf PP 6
noncomputable def rtX (n:Nat) (l L:List CQ) (m:Int) (k:Nat):St:=at_ fRT [(1,slQ l),(2,.lp 0 0),(4,.lp 1 0),(7,ni m),(8,ni k)] [.bx TRA (aR n L),.bx TRA [ni 0,.nl]]
noncomputable abbrev tD (n:Nat) (L:List CQ) (m e:Int):V:= .tu [.ag (aR n L),ni m,ni e]
theorem e_rtake (ha:Arc n L) (hc:∀ c∈l,Sq c∧FBits 100 c.cm.fit) (hl:l.length≤100000):Pure PP 6 [.ag (aR n L),slQ l] (tD n (takL n L l 0).1 (takL n L l 0).2.1 (takL n L l 0).2.2):=by
 have ll:(l.map dQ).length=l.length:=List.length_map ..
 refine pf (by kernel_rfl) (.to mo_ [] [1,2,4,7,8] [0,1] 2 [] (td':=lp fRT 0) (σ':=rtX n l L 0 0) ?_ (by kernel_rfl))
 generalize hR:takL n L l 0=R
 obtain⟨L',m',e'⟩:=R
 simp only
 refine Gd.loop (fun x:Nat×List CQ×Int=>rtX n l x.2.1 x.2.2 x.1) (fun x=>x.1≤l.length∧Arc n x.2.1∧(0≤x.2.2∧x.2.2≤x.1)∧takL n x.2.1 (l.drop x.1) x.2.2=(L',m',e')) (fun x=>l.length - x.1) ?_ (0,L,0) ⟨Nat.zero_le _,ha,⟨Int.le_refl _,Int.le_refl _⟩,by rw[List.drop_zero];exact hR⟩
 rintro ⟨k,L,m⟩ ⟨hk,ha,hm,hR⟩ ih
 simp only at hk ha hm hR ih
 by_cases h:k<l.length
 · have lt:decide ((k:Int)<((l.map dQ).length:Int))=true:=decide_eq_true (by omega)
   obtain⟨q,hq⟩:∃ q,l[k]? =some q:=⟨_,List.getElem?_eq_getElem h⟩
   have s1:=dQ_at hq
   obtain⟨h1,h2⟩:=hc q (List.mem_of_getElem? hq)
   have er:=e_rerror ha h1 h2
   have dr:l.drop k=q::l.drop (k+1):=by
    obtain⟨l1,g1⟩:=List.getElem?_eq_some_iff.1 hq
    rw[List.drop_eq_getElem_cons l1,g1]
   rw[dr,takL]at hR
   have ha2:=tkL_arc ha h1 h2
   by_cases e0:tkE n L q=0
   · rw[if_pos e0]at hR
     rw[e0]at er
     cases hf:fnd L q.cm.nm with
     |some o=>
      have tf:tkF n L q=false:=by unfold tkF;rw[hf];simp
      have tl:tkL n L q=L:=by unfold tkL;rw[tf];rfl
      have hb:hadB n L q=true:=by unfold hadB;rw[hf,e0];rfl
      rw[tf,tl]at hR
      rw[hb]at er
      have nx:=ih (k+1,L,m) ⟨h,ha,by simp only;omega,by simpa using hR⟩ (by simp only;omega)
      unfold rtX aR at nx⊢
      unfold PE aR at er
      unfold slQ at*
      exact .to mo_ [] [1,2,4,7,8] [0,1] 2 [ye lt,.sel _ _ _ s1,cl er,nf,nf,inc 16 k (by omega)] nx (by kernel_rfl)
     |none=>
      have tf:tkF n L q=true:=by unfold tkF;rw[hf,e0];rfl
      have tl:tkL n L q=L++[q]:=by unfold tkL;rw[tf];rfl
      have hb:hadB n L q=false:=by unfold hadB;rw[hf];simp
      rw[tl]at ha2
      rw[tf,tl]at hR
      rw[hb]at er
      have nx:=ih (k+1,L++[q],m+1) ⟨h,ha2,by simp only;omega,by simpa using hR⟩ (by simp only;omega)
      have len:=ha.len
      have a1:=apw (b:=2) (j:=3) (by omega) [] L (by rw[List.nil_append];omega)
      rw[List.nil_append]at a1
      have a2:=apz (b:=3) (j:=5) (by omega) L [q] (by rw[List.length_append];simp only[List.length_cons,List.length_nil];omega)
      unfold rtX aR at nx⊢
      unfold PE aR at er
      unfold slQ at*
      generalize (L++[q]).map dQ=R2 at*
      exact .to mo_ [] [1,2,4,7,8] [0,1] 2 [ye lt,.sel _ _ _ s1,cl er,nf,yt,.eqv 33 (.ow 2) (.ow 2) rfl,.ext (some 36) _ _ _ _ _ a1,.sel _ _ _ s1,.ro,.ext (some 42) _ _ _ _ _ a2,wq 45 (m+1) (m+1) (by omega),inc 16 k (by omega)] nx (by kernel_rfl)
   · rw[if_neg e0]at hR
     obtain⟨g1,g2⟩:=tkL_e e0
     injection hR with hR1 hR
     injection hR with hR2 hR3
     subst hR1;subst hR2;subst hR3
     have ne:(tkE n L q != 0)=true:=by simpa using e0
     generalize tkE n L q=e at*
     generalize hadB n L q=hb at*
     unfold rtX aR
     unfold PE aR at er
     unfold slQ at*
     exact fi [ye lt,.sel _ _ _ s1,cl er,ye ne] (by kernel_rfl) (by kernel_rfl)
 · have lt:decide ((k:Int)<((l.map dQ).length:Int))=false:=decide_eq_false (by omega)
   rw[List.drop_eq_nil_of_le (by omega),takL]at hR
   injection hR with hR1 hR
   injection hR with hR2 hR3
   subst hR1;subst hR2;subst hR3
   unfold rtX aR
   unfold slQ
   exact fi [na lt] (by kernel_rfl) (by kernel_rfl)
/-- Both clocks are the same. -/
theorem rclk_ge:∀ (L:List CQ) (t:Int),t≤L.foldl (fun m q=>max m q.tick) t∧∀ q∈L,q.tick≤L.foldl (fun m q=>max m q.tick) t
 |[],t=>⟨Int.le_refl _,fun q h=>(by cases h)⟩
 |x::r,t=>by
  obtain⟨h1,h2⟩:=rclk_ge r (max t x.tick)
  rw[List.foldl_cons]
  refine⟨by omega,fun q hq=> ?_⟩
  rcases List.mem_cons.1 hq with rfl|hq
  · omega
  · exact h2 q hq
theorem rclk_in:∀ (L:List CQ) (t:Int),L.foldl (fun m q=>max m q.tick) t=t∨∃ q∈L,L.foldl (fun m q=>max m q.tick) t=q.tick
 |[],t=> .inl rfl
 |x::r,t=>by
  rw[List.foldl_cons]
  rcases rclk_in r (max t x.tick)with h|⟨q,hq,h⟩
  · rw[h]
    by_cases g:t≤x.tick
    · exact .inr ⟨x,List.mem_cons_self ..,by omega⟩
    · exact .inl (by omega)
  · exact .inr ⟨q,List.mem_cons_of_mem _ hq,h⟩
theorem clkP_in (L:List CQ):∀ k:Nat,clkP L k=0∨∃ q∈L,clkP L k=q.tick
 |0=> .inl rfl
 | k + 1 => by
  unfold clkP
  have ih:=clkP_in L k
  cases h:(chn L (k:Int)).getLast? with
  |none=>exact ih
  |some q=>
   have hq:=(chn_mem.1 (List.mem_of_getLast? h)).1
   show max (clkP L k) q.tick=0∨∃ r∈L,max (clkP L k) q.tick=r.tick
   by_cases g:clkP L k≤q.tick
   · exact .inr ⟨q,hq,by omega⟩
   · rcases ih with ih|⟨r,hr,ih⟩
     · exact .inl (by omega)
     · exact .inr ⟨r,hr,by omega⟩
theorem clkP_ge (ha:Arc n L) (hq:q∈L):∀ k:Nat,q.by_<(k:Int)→q.tick≤clkP L k
 |0,h=>by have:=va_0 (ha.va q hq);exact absurd h (by have:=this.2.1;show¬q.by_<_;have:0≤q.by_:=this;omega)
 | k + 1, h => by
  unfold clkP
  by_cases e:q.by_=(k:Int)
  · have hm:q∈chn L (k:Int):=chn_mem.2 ⟨hq,e⟩
    cases hg:(chn L (k:Int)).getLast? with
    |none=>rw[List.getLast?_eq_none_iff.1 hg]at hm;cases hm
    |some x=>
     show q.tick≤max (clkP L k) x.tick
     obtain⟨i,hi⟩:=List.getElem?_of_mem hm
     have hx:(chn L (k:Int))[(chn L (k:Int)).length - 1]? =some x:=by rw[←List.getLast?_eq_getElem?];exact hg
     have hil:=(List.getElem?_eq_some_iff.1 hi).1
     by_cases h2:i=(chn L (k:Int)).length - 1
     · rw[←h2,hi]at hx
       injection hx with hx
       subst hx
       omega
     · have:=ha.tk _ _ _ _ _ hi hx (by omega)
       omega
  · have ih:=clkP_ge ha hq k (by omega)
    cases hg:(chn L (k:Int)).getLast? with
    |none=>exact ih
    |some x=>show q.tick≤max (clkP L k) x.tick;omega
theorem clk_eq (ha:Arc n L):rclk L=clkP L n:=by
 have h1:=rclk_ge L 0
 have h2:=rclk_in L 0
 have h3:=clkP_in L n
 have h4:=fun q hq=>clkP_ge ha (q:=q) hq n (ha.by_ q hq)
 have h5:=clk_le ha n
 unfold rclk
 generalize L.foldl (fun m q=>max m q.tick) 0=x at*
 apply Int.le_antisymm
 · rcases h2 with h2|⟨q,hq,h2⟩
   · omega
   · have:=h4 q hq;omega
 · rcases h3 with h3|⟨q,hq,h3⟩
   · omega
   · have:=h1.2 q hq;omega
noncomputable def mkW (n:Nat) (L:List CQ) (c:CQ):List V:=if mkE n L c=0 then dQ (mkQ n L c)else dC c0
noncomputable abbrev mD (n:Nat) (L:List CQ) (v:List V) (e:Int):V:= .tu [.ag (aR n L),.ag v,ni e]
abbrev PRM (n:Nat) (L:List CQ) (c:CQ) (d:V):Prop:=Pure PP 18 [.ag (aR n L),.ag (dQ c)] d
theorem rm_neg (h:c.by_<0):PRM n L c (mD n L (dC c0) 1):=by
 have h1:decide (c.by_<0)=true:=decide_eq_true h
 unfold PRM mD aR slQ
 exact tr [ye h1,yt] (by kernel_rfl)
theorem rm_big (h0:¬c.by_<0) (h:(n:Int)≤c.by_):PRM n L c (mD n L (dC c0) 1):=by
 have h1:decide (c.by_<0)=false:=decide_eq_false h0
 have h2:decide (c.by_≥(n:Int))=true:=decide_eq_true h
 unfold PRM mD aR slQ
 exact tr [na h1,ye h2] (by kernel_rfl)
theorem rm_some (hL:L.length≤1000) (h0:¬c.by_<0) (h:¬(n:Int)≤c.by_) (hm:(chn L c.by_).length=m) (ht:0≤t∧t≤1048576) (ck:Pure PP 28 [.ag (aR n L)] (ni t)) (q:CQ) (hq:q={c with seq:=(m:Int),tick:=t+1}) {L':List CQ} {a e:Int}
 (tk:Pure PP 6 [.ag (aR n L),slQ [q]] (tD n L' a e)) (he:(e != 0)=true):PRM n L c (mD n L (dC c0) e):=by
 have h1:decide (c.by_<0)=false:=decide_eq_false h0
 have h2:decide (c.by_≥(n:Int))=false:=decide_eq_false h
 have ch:=e_rchain (n:=n) (b:=c.by_) hL
 have e26:ni (((chn L c.by_).map dQ).length:Int)=ni (m:Int):=by rw[List.length_map,hm]
 subst hq
 unfold PRM mD
 unfold tD at tk
 unfold aR slQ at*
 generalize (chn L c.by_).map dQ=CC at*
 exact tr [na h1,na h2,cl ch,.eqv 26 _ _ e26,cl ck,wq 30 (t+1) (t+1) (by omega),cl tk,ye he] (by kernel_rfl)
theorem rm_ok (hL:L.length≤1000) (h0:¬c.by_<0) (h:¬(n:Int)≤c.by_) (hm:(chn L c.by_).length=m) (ht:0≤t∧t≤1048576) (ck:Pure PP 28 [.ag (aR n L)] (ni t)) (q:CQ) (hq:q={c with seq:=(m:Int),tick:=t+1}) {L':List CQ} {a:Int}
 (tk:Pure PP 6 [.ag (aR n L),slQ [q]] (tD n L' a 0)):PRM n L c (mD n L' (dQ q) 0):=by
 have h1:decide (c.by_<0)=false:=decide_eq_false h0
 have h2:decide (c.by_≥(n:Int))=false:=decide_eq_false h
 have ch:=e_rchain (n:=n) (b:=c.by_) hL
 have e26:ni (((chn L c.by_).map dQ).length:Int)=ni (m:Int):=by rw[List.length_map,hm]
 subst hq
 unfold PRM mD
 unfold tD at tk
 unfold aR slQ at*
 generalize (chn L c.by_).map dQ=CC at*
 exact tr [na h1,na h2,cl ch,.eqv 26 _ _ e26,cl ck,wq 30 (t+1) (t+1) (by omega),cl tk,nf] (by kernel_rfl)
theorem tak_one (n:Nat) (L:List CQ) (c:CQ):(takL n L [c] 0).1=tkL n L c∧(takL n L [c] 0).2.2=tkE n L c:=by
 unfold takL takL
 by_cases h:tkE n L c=0
 · rw[if_pos h];exact⟨rfl,h.symm⟩
 · rw[if_neg h];exact⟨(tkL_e h).1.symm,rfl⟩
theorem e_rmake (ha:Arc n L) (hc:Sq c) (hf:FBits 100 c.cm.fit):PRM n L c (mD n (mkL n L c) (mkW n L c) (mkE n L c)):=by
 have hL:L.length≤1000:=by have:=ha.len;omega
 by_cases hb:0≤c.by_∧c.by_<(n:Int)
 · have e:mkE n L c=tkE n L (mkQ n L c):=if_pos hb
   have ck:=e_rclock (n:=n) (L:=L) hL
   rw[clk_eq ha]at ck
   have cl_:=clk_le ha n
   have tk:=e_rtake ha (l:=[mkQ n L c]) (fun q hq=>by rw[List.mem_singleton.1 hq];exact⟨mkQ_sq ha hc,hf⟩) (by simp)
   obtain⟨t1,t2⟩:=tak_one n L (mkQ n L c)
   rw[t1,t2]at tk
   by_cases h0:tkE n L (mkQ n L c)=0
   · have h1:mkE n L c=0:=e.trans h0
     have e1:mkW n L c=dQ (mkQ n L c):=if_pos h1
     have e2:mkL n L c=tkL n L (mkQ n L c):=if_pos h1
     rw[e1,e2,h1]
     rw[h0]at tk
     exact rm_ok hL (by omega) (by omega) rfl cl_ ck _ rfl tk
   · have h1:¬mkE n L c=0:=fun h=>h0 (e.symm.trans h)
     have e1:mkW n L c=dC c0:=if_neg h1
     have e2:mkL n L c=L:=if_neg h1
     rw[e1,e2,e]
     exact rm_some hL (by omega) (by omega) rfl cl_ ck _ rfl tk (by simpa using h0)
 · have e:mkE n L c=1:=if_neg hb
   have h1:¬mkE n L c=0:=by rw[e];decide
   have e1:mkW n L c=dC c0:=if_neg h1
   have e2:mkL n L c=L:=if_neg h1
   rw[e1,e2,e]
   by_cases h:c.by_<0
   · exact rm_neg h
   · exact rm_big h (by omega)
end
end Go.Proofs.YtfdfbenejkmnlaaGreatDoor.E.Ca
namespace Go.Proofs.YtfdfbenejkmnlaaGreatDoor.E.Ca
open Go.RowKit Hs
set_option linter.unusedVariables false
set_option linter.unusedSimpArgs false
section
variable {L M C A S l:List CQ} {p:Int×Int} {q r c o:CQ} {b:Int} {i j k m n:Nat} {t v:Int} {H:List (Int×DG)} {x:Int×DG}
noncomputable abbrev wD (W:List CQ) (e:Int):V:= .tu [slQ W,ni e]
/-- What is wanted. -/
noncomputable def wantW (n:Nat) (L:List CQ) (H:List (Int×DG)):List CQ:=if wantE n L H=0 then kpt (knwn H) (sorted L)else[]
end
end Go.Proofs.YtfdfbenejkmnlaaGreatDoor.E.Ca
