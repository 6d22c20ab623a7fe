/-
 GENERATORS of archives: names of claims that are there.
-/
import Derived.Test.YtmgagedefmmloaaGreatDoorDnB
namespace Go.Proofs.YtmgagedefmmloaaGreatDoor.E.Ca
open Go.RowKit Hs
set_option linter.unusedVariables false
set_option linter.unusedSimpArgs false
section
variable {L M C A l:List CQ} {p:Int×Int} {q r c o x:CQ} {b:Int} {i j k m n:Nat} {t v:Int} {late f:Bool}
noncomputable abbrev fRT:Func:=fnOf PP 28
noncomputable def rtX (n:Nat) (l L:List CQ) (m:Int) (k:Nat):St:=at_ fRT [(1,slQ l),(2,.lp 0 0),(4,.lp 1 0),(7,ni m),(8,ni k)] [.bx TRA (aR n L),.bx TRA [ni 0,.nl]]
noncomputable abbrev tD (n:Nat) (L:List CQ) (m e:Int):V:= .tu [.ag (aR n L),ni m,ni e]
theorem e_rtake (ha:Arc n L) (hc:∀ c∈l,Sq c∧FBits 100 c.cm.fit) (hl:l.length≤100000):Pure PP 28 [.ag (aR n L),slQ l] (tD n (takL n L l 0).1 (takL n L l 0).2.1 (takL n L l 0).2.2):=by
 have ll:(l.map dQ).length=l.length:=List.length_map ..
 refine pf (by kernel_rfl) (.to mo_ [] [1,2,4,7,8] [0,1] 2 [] (td':=lp fRT 0) (σ':=rtX n l L 0 0) ?_ (by kernel_rfl))
 generalize hR:takL n L l 0=R
 obtain⟨L',m',e'⟩:=R
 simp only
 refine Gd.loop (fun x:Nat×List CQ×Int=>rtX n l x.2.1 x.2.2 x.1) (fun x=>x.1≤l.length∧Arc n x.2.1∧(0≤x.2.2∧x.2.2≤x.1)∧takL n x.2.1 (l.drop x.1) x.2.2=(L',m',e')) (fun x=>l.length - x.1) ?_ (0,L,0) ⟨Nat.zero_le _,ha,⟨Int.le_refl _,Int.le_refl _⟩,by rw[List.drop_zero];exact hR⟩
 rintro ⟨k,L,m⟩ ⟨hk,ha,hm,hR⟩ ih
 simp only at hk ha hm hR ih
 by_cases h:k<l.length
 · have lt:decide ((k:Int)<((l.map dQ).length:Int))=true:=decide_eq_true (by omega)
   obtain⟨q,hq⟩:∃ q,l[k]? =some q:=⟨_,List.getElem?_eq_getElem h⟩
   have s1:=dQ_at hq
   obtain⟨h1,h2⟩:=hc q (List.mem_of_getElem? hq)
   have er:=e_rerror ha h1 h2
   have dr:l.drop k=q::l.drop (k+1):=by
    obtain⟨l1,g1⟩:=List.getElem?_eq_some_iff.1 hq
    rw[List.drop_eq_getElem_cons l1,g1]
   rw[dr,takL]at hR
   have ha2:=tkL_arc ha h1 h2
   by_cases e0:tkE n L q=0
   · rw[if_pos e0]at hR
     rw[e0]at er
     cases hf:fnd L q.cm.nm with
     |some o=>
      have tf:tkF n L q=false:=by unfold tkF;rw[hf];simp
      have tl:tkL n L q=L:=by unfold tkL;rw[tf];rfl
      have hb:hadB n L q=true:=by unfold hadB;rw[hf,e0];rfl
      rw[tf,tl]at hR
      rw[hb]at er
      have nx:=ih (k+1,L,m) ⟨h,ha,by simp only;omega,by simpa using hR⟩ (by simp only;omega)
      unfold rtX aR at nx⊢
      unfold PE aR at er
      unfold slQ at*
      exact .to mo_ [] [1,2,4,7,8] [0,1] 2 [ye lt,.sel _ _ _ s1,cl er,nf,nf,inc 16 k (by omega)] nx (by kernel_rfl)
     |none=>
      have tf:tkF n L q=true:=by unfold tkF;rw[hf,e0];rfl
      have tl:tkL n L q=L++[q]:=by unfold tkL;rw[tf];rfl
      have hb:hadB n L q=false:=by unfold hadB;rw[hf];simp
      rw[tl]at ha2
      rw[tf,tl]at hR
      rw[hb]at er
      have nx:=ih (k+1,L++[q],m+1) ⟨h,ha2,by simp only;omega,by simpa using hR⟩ (by simp only;omega)
      have len:=ha.len
      have a1:=apw (b:=2) (j:=3) (by omega) [] L (by rw[List.nil_append];omega)
      rw[List.nil_append]at a1
      have a2:=apz (b:=3) (j:=5) (by omega) L [q] (by rw[List.length_append];simp only[List.length_cons,List.length_nil];omega)
      unfold rtX aR at nx⊢
      unfold PE aR at er
      unfold slQ at*
      generalize (L++[q]).map dQ=R2 at*
      exact .to mo_ [] [1,2,4,7,8] [0,1] 2 [ye lt,.sel _ _ _ s1,cl er,nf,yt,.eqv 33 (.ow 2) (.ow 2) rfl,.ext (some 36) _ _ _ _ _ a1,.sel _ _ _ s1,.ro,.ext (some 42) _ _ _ _ _ a2,wq 45 (m+1) (m+1) (by omega),inc 16 k (by omega)] nx (by kernel_rfl)
   · rw[if_neg e0]at hR
     obtain⟨g1,g2⟩:=tkL_e e0
     injection hR with hR1 hR
     injection hR with hR2 hR3
     subst hR1;subst hR2;subst hR3
     have ne:(tkE n L q != 0)=true:=by simpa using e0
     generalize tkE n L q=e at*
     generalize hadB n L q=hb at*
     unfold rtX aR
     unfold PE aR at er
     unfold slQ at*
     exact fi [ye lt,.sel _ _ _ s1,cl er,ye ne] (by kernel_rfl) (by kernel_rfl)
 · have lt:decide ((k:Int)<((l.map dQ).length:Int))=false:=decide_eq_false (by omega)
   rw[List.drop_eq_nil_of_le (by omega),takL]at hR
   injection hR with hR1 hR
   injection hR with hR2 hR3
   subst hR1;subst hR2;subst hR3
   unfold rtX aR
   unfold slQ
   exact fi [na lt] (by kernel_rfl) (by kernel_rfl)
/-- Both clocks are the same. -/
theorem rclk_ge:∀ (L:List CQ) (t:Int),t≤L.foldl (fun m q=>max m q.tick) t∧∀ q∈L,q.tick≤L.foldl (fun m q=>max m q.tick) t
 |[],t=>⟨Int.le_refl _,fun q h=>(by cases h)⟩
 |x::r,t=>by
  obtain⟨h1,h2⟩:=rclk_ge r (max t x.tick)
  rw[List.foldl_cons]
  refine⟨by omega,fun q hq=> ?_⟩
  rcases List.mem_cons.1 hq with rfl|hq
  · omega
  · exact h2 q hq
theorem rclk_in:∀ (L:List CQ) (t:Int),L.foldl (fun m q=>max m q.tick) t=t∨∃ q∈L,L.foldl (fun m q=>max m q.tick) t=q.tick
 |[],t=> .inl rfl
 |x::r,t=>by
  rw[List.foldl_cons]
  rcases rclk_in r (max t x.tick)with h|⟨q,hq,h⟩
  · rw[h]
    by_cases g:t≤x.tick
    · exact .inr ⟨x,List.mem_cons_self ..,by omega⟩
    · exact .inl (by omega)
  · exact .inr ⟨q,List.mem_cons_of_mem _ hq,h⟩
theorem clkP_in (L:List CQ):∀ k:Nat,clkP L k=0∨∃ q∈L,clkP L k=q.tick
 |0=> .inl rfl
 | k + 1 => by
  unfold clkP
  have ih:=clkP_in L k
  cases h:(chn L (k:Int)).getLast? with
  |none=>exact ih
  |some q=>
   have hq:=(chn_mem.1 (List.mem_of_getLast? h)).1
   show max (clkP L k) q.tick=0∨∃ r∈L,max (clkP L k) q.tick=r.tick
   by_cases g:clkP L k≤q.tick
   · exact .inr ⟨q,hq,by omega⟩
   · rcases ih with ih|⟨r,hr,ih⟩
     · exact .inl (by omega)
     · exact .inr ⟨r,hr,by omega⟩
theorem clkP_ge (ha:Arc n L) (hq:q∈L):∀ k:Nat,q.by_<(k:Int)→q.tick≤clkP L k
 |0,h=>by have:=va_0 (ha.va q hq);exact absurd h (by have:=this.2.1;show¬q.by_<_;have:0≤q.by_:=this;omega)
 | k + 1, h => by
  unfold clkP
  by_cases e:q.by_=(k:Int)
  · have hm:q∈chn L (k:Int):=chn_mem.2 ⟨hq,e⟩
    cases hg:(chn L (k:Int)).getLast? with
    |none=>rw[List.getLast?_eq_none_iff.1 hg]at hm;cases hm
    |some x=>
     show q.tick≤max (clkP L k) x.tick
     obtain⟨i,hi⟩:=List.getElem?_of_mem hm
     have hx:(chn L (k:Int))[(chn L (k:Int)).length - 1]? =some x:=by rw[←List.getLast?_eq_getElem?];exact hg
     have hil:=(List.getElem?_eq_some_iff.1 hi).1
     by_cases h2:i=(chn L (k:Int)).length - 1
     · rw[←h2,hi]at hx
       injection hx with hx
       subst hx
       omega
     · have:=ha.tk _ _ _ _ _ hi hx (by omega)
       omega
  · have ih:=clkP_ge ha hq k (by omega)
    cases hg:(chn L (k:Int)).getLast? with
    |none=>exact ih
    |some x=>show q.tick≤max (clkP L k) x.tick;omega
theorem clk_eq (ha:Arc n L):rclk L=clkP L n:=by
 have h1:=rclk_ge L 0
 have h2:=rclk_in L 0
 have h3:=clkP_in L n
 have h4:=fun q hq=>clkP_ge ha (q:=q) hq n (ha.by_ q hq)
 have h5:=clk_le ha n
 unfold rclk
 generalize L.foldl (fun m q=>max m q.tick) 0=x at*
 apply Int.le_antisymm
 · rcases h2 with h2|⟨q,hq,h2⟩
   · omega
   · have:=h4 q hq;omega
 · rcases h3 with h3|⟨q,hq,h3⟩
   · omega
   · have:=h1.2 q hq;omega
noncomputable def mkW (n:Nat) (L:List CQ) (c:CQ):List V:=if mkE n L c=0 then dQ (mkQ n L c)else dC c0
noncomputable abbrev mD (n:Nat) (L:List CQ) (v:List V) (e:Int):V:= .tu [.ag (aR n L),.ag v,ni e]
abbrev PRM (n:Nat) (L:List CQ) (c:CQ) (d:V):Prop:=Pure PP 11 [.ag (aR n L),.ag (dQ c)] d
theorem rm_neg (h:c.by_<0):PRM n L c (mD n L (dC c0) 1):=by
 have h1:decide (c.by_<0)=true:=decide_eq_true h
 unfold PRM mD aR slQ
 exact tr [ye h1,yt] (by kernel_rfl)
theorem rm_big (h0:¬c.by_<0) (h:(n:Int)≤c.by_):PRM n L c (mD n L (dC c0) 1):=by
 have h1:decide (c.by_<0)=false:=decide_eq_false h0
 have h2:decide (c.by_≥(n:Int))=true:=decide_eq_true h
 unfold PRM mD aR slQ
 exact tr [na h1,ye h2] (by kernel_rfl)
theorem rm_some (hL:L.length≤1000) (h0:¬c.by_<0) (h:¬(n:Int)≤c.by_) (hm:(chn L c.by_).length=m) (ht:0≤t∧t≤1048576) (ck:Pure PP 55 [.ag (aR n L)] (ni t)) (q:CQ) (hq:q={c with seq:=(m:Int),tick:=t+1}) {L':List CQ} {a e:Int}
 (tk:Pure PP 28 [.ag (aR n L),slQ [q]] (tD n L' a e)) (he:(e != 0)=true):PRM n L c (mD n L (dC c0) e):=by
 have h1:decide (c.by_<0)=false:=decide_eq_false h0
 have h2:decide (c.by_≥(n:Int))=false:=decide_eq_false h
 have ch:=e_rchain (n:=n) (b:=c.by_) hL
 have e26:ni (((chn L c.by_).map dQ).length:Int)=ni (m:Int):=by rw[List.length_map,hm]
 subst hq
 unfold PRM mD
 unfold tD at tk
 unfold aR slQ at*
 generalize (chn L c.by_).map dQ=CC at*
 exact tr [na h1,na h2,cl ch,.eqv 26 _ _ e26,cl ck,wq 30 (t+1) (t+1) (by omega),cl tk,ye he] (by kernel_rfl)
theorem rm_ok (hL:L.length≤1000) (h0:¬c.by_<0) (h:¬(n:Int)≤c.by_) (hm:(chn L c.by_).length=m) (ht:0≤t∧t≤1048576) (ck:Pure PP 55 [.ag (aR n L)] (ni t)) (q:CQ) (hq:q={c with seq:=(m:Int),tick:=t+1}) {L':List CQ} {a:Int}
 (tk:Pure PP 28 [.ag (aR n L),slQ [q]] (tD n L' a 0)):PRM n L c (mD n L' (dQ q) 0):=by
 have h1:decide (c.by_<0)=false:=decide_eq_false h0
 have h2:decide (c.by_≥(n:Int))=false:=decide_eq_false h
 have ch:=e_rchain (n:=n) (b:=c.by_) hL
 have e26:ni (((chn L c.by_).map dQ).length:Int)=ni (m:Int):=by rw[List.length_map,hm]
 subst hq
 unfold PRM mD
 unfold tD at tk
 unfold aR slQ at*
 generalize (chn L c.by_).map dQ=CC at*
 exact tr [na h1,na h2,cl ch,.eqv 26 _ _ e26,cl ck,wq 30 (t+1) (t+1) (by omega),cl tk,nf] (by kernel_rfl)
theorem tak_one (n:Nat) (L:List CQ) (c:CQ):(takL n L [c] 0).1=tkL n L c∧(takL n L [c] 0).2.2=tkE n L c:=by
 unfold takL takL
 by_cases h:tkE n L c=0
 · rw[if_pos h];exact⟨rfl,h.symm⟩
 · rw[if_neg h];exact⟨(tkL_e h).1.symm,rfl⟩
theorem e_rmake (ha:Arc n L) (hc:Sq c) (hf:FBits 100 c.cm.fit):PRM n L c (mD n (mkL n L c) (mkW n L c) (mkE n L c)):=by
 have hL:L.length≤1000:=by have:=ha.len;omega
 by_cases hb:0≤c.by_∧c.by_<(n:Int)
 · have e:mkE n L c=tkE n L (mkQ n L c):=if_pos hb
   have ck:=e_rclock (n:=n) (L:=L) hL
   rw[clk_eq ha]at ck
   have cl_:=clk_le ha n
   have tk:=e_rtake ha (l:=[mkQ n L c]) (fun q hq=>by rw[List.mem_singleton.1 hq];exact⟨mkQ_sq ha hc,hf⟩) (by simp)
   obtain⟨t1,t2⟩:=tak_one n L (mkQ n L c)
   rw[t1,t2]at tk
   by_cases h0:tkE n L (mkQ n L c)=0
   · have h1:mkE n L c=0:=e.trans h0
     have e1:mkW n L c=dQ (mkQ n L c):=if_pos h1
     have e2:mkL n L c=tkL n L (mkQ n L c):=if_pos h1
     rw[e1,e2,h1]
     rw[h0]at tk
     exact rm_ok hL (by omega) (by omega) rfl cl_ ck _ rfl tk
   · have h1:¬mkE n L c=0:=fun h=>h0 (e.symm.trans h)
     have e1:mkW n L c=dC c0:=if_neg h1
     have e2:mkL n L c=L:=if_neg h1
     rw[e1,e2,e]
     exact rm_some hL (by omega) (by omega) rfl cl_ ck _ rfl tk (by simpa using h0)
 · have e:mkE n L c=1:=if_neg hb
   have h1:¬mkE n L c=0:=by rw[e];decide
   have e1:mkW n L c=dC c0:=if_neg h1
   have e2:mkL n L c=L:=if_neg h1
   rw[e1,e2,e]
   by_cases h:c.by_<0
   · exact rm_neg h
   · exact rm_big h (by omega)
end
end Go.Proofs.YtmgagedefmmloaaGreatDoor.E.Ca
namespace Go.Proofs.YtmgagedefmmloaaGreatDoor.E.Ca
open Go.RowKit Hs
set_option linter.unusedVariables false
set_option linter.unusedSimpArgs false
section
variable {L M C A S l:List CQ} {p:Int×Int} {q r c o:CQ} {b:Int} {i j k m n:Nat} {t v:Int} {H:List (Int×DG)} {x:Int×DG}
noncomputable abbrev fRW:Func:=fnOf PP 42
noncomputable def rw1 (n:Nat) (L:List CQ) (H:List (Int×DG)) (k:Nat):St:=at_ fRW [(1,slH H),(2,.lp 0 0),(6,ni k)] [.bx TRA (aR n L)]
noncomputable def rw2 (n:Nat) (L:List CQ) (H:List (Int×DG)) (k:Nat):St:=at_ fRW [(1,slH H),(2,.lp 0 0),(7,ni k)] [.bx TRA (aR n L)]
noncomputable def rw3 (n:Nat) (L:List CQ) (H:List (Int×DG)) (S A:List CQ) (j:Nat):St:=at_ fRW [(1,slH H),(9,.ow 1),(10,slQ S),(11,ni j)] [.bx TRA (aR n L),.rw TCl 35 (A.map dQ)]
noncomputable abbrev wD (W:List CQ) (e:Int):V:= .tu [slQ W,ni e]
abbrev PRW (n:Nat) (L:List CQ) (H:List (Int×DG)) (d:V):Prop:=Pure PP 42 [.ag (aR n L),slH H] d
abbrev GRW (d:V) (td:List Item) (σ:St):Prop:=Gd PP 42 d td σ
theorem rw_len (hl:H.length≠n):PRW n L H (wD [] 1):=by
 have ln:ni ((H.map hdV).length:Int)=ni (H.length:Int):=by rw[List.length_map]
 have ne:((H.length:Int) != (n:Int))=true:=by
  have:(H.length:Int)≠(n:Int):=by omega
  simpa using this
 unfold PRW aR slH slQ
 exact tr [.eqv 13 _ _ ln,ye ne] (by kernel_rfl)
theorem rw_go {d:V} (hl:H.length=n) (g:GRW d (lp fRW 0) (rw1 n L H 0)):PRW n L H d:=by
 have ln:ni ((H.map hdV).length:Int)=ni (H.length:Int):=by rw[List.length_map]
 have ne:((H.length:Int) != (n:Int))=false:=by rw[hl];simp
 unfold rw1 at g
 unfold PRW
 unfold aR slH slQ at*
 exact pf (by kernel_rfl) (.to mo_ [] [1,2,6] [0] 1 [.eqv 13 _ _ ln,na ne] g (by kernel_rfl))
theorem rw_1 {d:V} (hn:H.length≤1000) (h0:H.any badH=true→d=wD [] 1) (h1:H.any badH=false→GRW d (lp fRW 1) (rw2 n L H 0)):GRW d (lp fRW 0) (rw1 n L H 0):=by
 have ll:(H.map hdV).length=H.length:=List.length_map ..
 refine Gd.loop (rw1 n L H) (fun k=>k≤H.length∧(H.take k).any badH=false) (fun k=>H.length - k) ?_ 0 ⟨Nat.zero_le _,rfl⟩
 rintro k ⟨hk,hb⟩ ih
 by_cases h:k<H.length
 · obtain⟨x,hx⟩:∃ x,H[k]? =some x:=⟨_,List.getElem?_eq_getElem h⟩
   have s1:=hd_at hx
   have lt:decide ((k:Int)<((H.map hdV).length:Int))=true:=decide_eq_true (by omega)
   have tk:(H.take (k+1)).any badH=badH x:=by
    rw[List.take_add_one,hx,List.any_append,hb]
    simp
   cases hc:badH x with
   |true=>
    have e:=h0 (List.any_eq_true.2 ⟨x,List.mem_of_getElem? hx,hc⟩)
    subst e
    unfold badH at hc
    unfold rw1 aR
    unfold slH slQ at*
    cases c1:decide (x.1<0)with
    |true=>exact fi [ye lt,.sel _ _ _ s1,ye c1,yt] (by kernel_rfl) (by kernel_rfl)
    |false=>
     rw[c1,Bool.false_or]at hc
     exact fi [ye lt,.sel _ _ _ s1,na c1,.sel _ _ _ s1,ye hc] (by kernel_rfl) (by kernel_rfl)
   |false=>
    have nx:=ih (k+1) ⟨h,by rw[tk,hc]⟩ (by omega)
    unfold badH at hc
    rw[Bool.or_eq_false_iff]at hc
    obtain⟨c1,c2⟩:=hc
    unfold rw1 aR at nx⊢
    unfold slH slQ at*
    exact .to mo_ [] [1,2,6] [0] 1 [ye lt,.sel _ _ _ s1,na c1,.sel _ _ _ s1,na c2,inc 22 k (by omega)] nx (by kernel_rfl)
 · have lt:decide ((k:Int)<((H.map hdV).length:Int))=false:=decide_eq_false (by omega)
   rw[List.take_of_length_le (by omega)]at hb
   have nx:=h1 hb
   unfold rw2 aR at nx
   unfold rw1 aR
   unfold slH slQ at*
   exact .to mo_ [] [1,2,7] [0] 1 [na lt] nx (by kernel_rfl)
theorem rw_3 (hS:S.length≤1000) (hb:∀ q∈S,0≤q.by_∧q.by_<(H.length:Int)):GRW (wD (kpt (knwn H) S) 0) (lp fRW 2) (rw3 n L H S [] 0):=by
 have ll:(S.map dQ).length=S.length:=List.length_map ..
 refine Gd.loop (fun j=>rw3 n L H S (kpt (knwn H) (S.take j)) j) (fun j=>j≤S.length) (fun j=>S.length - j) ?_ 0 (Nat.zero_le _)
 intro j hj ih
 by_cases h:j<S.length
 · have lt:decide ((j:Int)<((S.map dQ).length:Int))=true:=decide_eq_true (by omega)
   obtain⟨q,hq⟩:∃ q,S[j]? =some q:=⟨_,List.getElem?_eq_getElem h⟩
   have s1:=dQ_at hq
   have nx:=ih (j+1) h (by omega)
   have kn:=kpt_next (del:=knwn H) hq
   have hbq:=hb q (List.mem_of_getElem? hq)
   obtain⟨k,hk⟩:∃ k:Nat,q.by_=(k:Int):=⟨q.by_.toNat,by omega⟩
   have hx:H[k]? =some (H.getD k (0,zD)):=getD_lt (by omega)
   have s2:=hd_at hx
   have kd:knwn H q.cm=decide (q.seq<(H.getD k (0,zD)).1):=by
    unfold knwn
    rw[show q.cm.by_.toNat=k by show q.by_.toNat=k;omega]
    rfl
   have le:=kpt_le (del:=knwn H) S j
   rw[kn,kd]at nx
   generalize H.getD k (0,zD)=x at*
   by_cases hc:q.seq<x.1
   · have ge:decide (q.seq≥x.1)=false:=decide_eq_false (by omega)
     rw[decide_eq_true hc,if_pos rfl,List.append_nil]at nx
     unfold rw3 aR at nx⊢
     unfold slH slQ at*
     generalize (kpt (knwn H) (S.take j)).map dQ=R at*
     exact .to mo_ [] [1,9,10,11] [0,1] 2 [ye lt,.sel _ _ _ s1,.sel _ _ _ s1,.eqv 88 (ni q.by_) (ni (k:Int)) (by rw[hk]),.sel _ _ _ s2,na ge,inc 77 j (by omega)] nx (by kernel_rfl)
   · have ge:decide (q.seq≥x.1)=true:=decide_eq_true (by omega)
     rw[decide_eq_false hc,if_neg Bool.false_ne_true]at nx
     have ap:(kpt (knwn H) (S.take j)).map dQ++[dQ q]=(kpt (knwn H) (S.take j)++[q]).map dQ:=by rw[List.map_append];rfl
     have al:((kpt (knwn H) (S.take j)++[q]).map dQ).length≤2000:=by rw[List.length_map,List.length_append];simp only[List.length_cons,List.length_nil];omega
     unfold rw3 aR at nx⊢
     unfold slH slQ at*
     generalize (kpt (knwn H) (S.take j)++[q]).map dQ=R2 at*
     generalize (kpt (knwn H) (S.take j)).map dQ=R at*
     exact .to mo_ [.mv 1 3] [1,9,10,11] [0,1] 2 [ye lt,.sel _ _ _ s1,.sel _ _ _ s1,.eqv 88 (ni q.by_) (ni (k:Int)) (by rw[hk]),.sel _ _ _ s2,ye ge,.sel _ _ _ s1,.app _ _ _ 2000 ap (Nat.zero_lt_succ _) al,inc 77 j (by omega)] nx (by kernel_rfl)
 · have lt:decide ((j:Int)<((S.map dQ).length:Int))=false:=decide_eq_false (by omega)
   rw[List.take_of_length_le (by omega)]
   unfold rw3 wD
   unfold slQ
   exact fi [na lt] (by kernel_rfl) (by kernel_rfl)
theorem rw_2 (ha : Arc n L) (hl : H.length = n) (hb : H.any badH = false) : GRW (if ((List.range n).any fun k => oddH L k (H.getD k (0, zD))) = true then wD [] 9 else wD (kpt (knwn H) (sorted L)) 0) (lp fRW 1) (rw2 n L H 0) := by
 have ll:(H.map hdV).length=H.length:=List.length_map ..
 have n1:=ha.n1
 refine Gd.loop (rw2 n L H) (fun k=>k≤n∧∀ j,j<k→oddH L j (H.getD j (0,zD))=false) (fun k=>n - k) ?_ 0 ⟨Nat.zero_le _,fun j h=>absurd h (by omega)⟩
 rintro k ⟨hk,ho⟩ ih
 have hL:L.length≤1000:=by have:=ha.len;omega
 by_cases h:k<n
 · have hx : H[k]? = some (H.getD k (0, zD)) := getD_lt (by omega)
   have s1:=hd_at hx
   have lt:decide ((k:Int)<((H.map hdV).length:Int))=true:=decide_eq_true (by omega)
   have ch:=e_rchain (n:=n) (b:=(k:Int)) hL
   have e52:ni (((chn L (k:Int)).map dQ).length:Int)=ni ((chn L (k:Int)).length:Int):=by rw[List.length_map]
   have lc:((chn L (k:Int)).map dQ).length=(chn L (k:Int)).length:=List.length_map ..
   have len:=chn_le L (k:Int)
   have nb:badH (H.getD k (0,zD))=false:=by
    have:=List.any_eq_false.1 hb _ (List.mem_of_getElem? hx)
    simpa using this
   unfold badH at nb
   rw[Bool.or_eq_false_iff,decide_eq_false_iff_not,decide_eq_false_iff_not]at nb
   by_cases hle:(H.getD k (0,zD)).1≤((chn L (k:Int)).length:Int)
   · obtain⟨i,hi⟩:∃ i:Nat,(H.getD k (0,zD)).1=(i:Int):=⟨(H.getD k (0,zD)).1.toNat,by omega⟩
     have sm:=e_rsumA (L:=(chn L (k:Int)).take i) (fun q hq=>chn_sq ha q (List.mem_of_mem_take hq)) (by rw[List.length_take];omega)
     have eq:=e_eqD (sumW ((chn L (k:Int)).take i)) (H.getD k (0,zD)).2
     have sl_:(((chn L (k:Int)).map dQ).take i).drop 0=((chn L (k:Int)).take i).map dQ:=by rw[List.drop_zero,List.map_take]
     have hok:oddH L k (H.getD k (0,zD))= !dgE (sumW ((chn L (k:Int)).take i)) (H.getD k (0,zD)).2:=by
      unfold oddH
      rw[decide_eq_true hle,Bool.true_and,hi,Int.toNat_natCast]
     have le2:decide ((H.getD k (0,zD)).1≤((chn L (k:Int)).length:Int))=true:=decide_eq_true hle
     cases hd:dgE (sumW ((chn L (k:Int)).take i)) (H.getD k (0,zD)).2 with
     |true=>
      rw[hd]at eq hok
      have nx:=ih (k+1) ⟨h,fun j hj=>by
       rcases Nat.lt_or_ge j k with g|g
       · exact ho j g
       · have:j=k:=by omega
         subst this
         exact hok⟩ (by omega)
      generalize (if((List.range n).any fun k=>oddH L k (H.getD k (0,zD)))=true then wD [] 9 else wD (kpt (knwn H) (sorted L)) 0)=D at*
      generalize hz:dQs_z (chn L (k:Int))=z1
      unfold rw2 aR at nx⊢
      unfold aR at ch
      unfold slH slQ at*
      generalize sumW ((chn L (k:Int)).take i)=W at*
      generalize ((chn L (k:Int)).take i).map dQ=C2 at*
      clear hz
      generalize (chn L (k:Int)).map dQ=CC at*
      generalize (chn L (k:Int)).length=m at*
      generalize H.getD k (0,zD)=x at*
      exact .to mo_ [] [1,2,7] [0] 1 [ye lt,cl ch,.sel _ _ _ s1,.eqv 52 _ _ e52,ye le2,.sel _ _ _ s1,.eqv 60 (ni x.1) (ni (i:Int)) (by rw[hi]),.slc CC 0 i 35 _ sl_ ⟨by omega,by omega⟩ z1,cl sm,.sel _ _ _ s1,.eqa _ _ _ _ eq,nf,inc 42 k (by omega)] nx (by kernel_rfl)
     |false=>
      rw[hd]at eq hok
      have e:((List.range n).any fun k=>oddH L k (H.getD k (0,zD)))=true:=List.any_eq_true.2 ⟨k,List.mem_range.2 h,hok⟩
      rw[if_pos e]
      generalize hz:dQs_z (chn L (k:Int))=z1
      unfold rw2 aR
      unfold aR at ch
      unfold wD slH slQ at*
      generalize sumW ((chn L (k:Int)).take i)=W at*
      generalize ((chn L (k:Int)).take i).map dQ=C2 at*
      clear hz
      generalize (chn L (k:Int)).map dQ=CC at*
      generalize (chn L (k:Int)).length=m at*
      generalize H.getD k (0,zD)=x at*
      exact fi [ye lt,cl ch,.sel _ _ _ s1,.eqv 52 _ _ e52,ye le2,.sel _ _ _ s1,.eqv 60 (ni x.1) (ni (i:Int)) (by rw[hi]),.slc CC 0 i 35 _ sl_ ⟨by omega,by omega⟩ z1,cl sm,.sel _ _ _ s1,.eqa _ _ _ _ eq,yt] (by kernel_rfl) (by kernel_rfl)
   · have hok:oddH L k (H.getD k (0,zD))=false:=by unfold oddH;rw[decide_eq_false hle];rfl
     have le2:decide ((H.getD k (0,zD)).1≤((chn L (k:Int)).length:Int))=false:=decide_eq_false hle
     have nx:=ih (k+1) ⟨h,fun j hj=>by
      rcases Nat.lt_or_ge j k with g|g
      · exact ho j g
      · have:j=k:=by omega
        subst this
        exact hok⟩ (by omega)
     generalize (if((List.range n).any fun k=>oddH L k (H.getD k (0,zD)))=true then wD [] 9 else wD (kpt (knwn H) (sorted L)) 0)=D at*
     unfold rw2 aR at nx⊢
     unfold aR at ch
     unfold slH slQ at*
     generalize (chn L (k:Int)).map dQ=CC at*
     generalize (chn L (k:Int)).length=m at*
     exact .to mo_ [] [1,2,7] [0] 1 [ye lt,cl ch,.sel _ _ _ s1,.eqv 52 _ _ e52,na le2,nf,inc 42 k (by omega)] nx (by kernel_rfl)
 · have hkn:k=n:=by omega
   subst hkn
   have lt:decide ((k:Int)<((H.map hdV).length:Int))=false:=decide_eq_false (by omega)
   have e:¬((List.range k).any fun k=>oddH L k (H.getD k (0,zD)))=true:=by
    rw[Bool.not_eq_true,List.any_eq_false]
    intro j hj
    rw[ho j (List.mem_range.1 hj)]
    exact Bool.false_ne_true
   rw[if_neg e]
   have cs:=e_rclaims (n:=k) (L:=L) ha.sq (by have:=ha.len;omega)
   have g:=rw_3 (n:=k) (L:=L) (H:=H) (S:=sorted L) (by have:=sorted_le L;omega) (fun q hq=>by
    have hq:=sorted_sub hq
    have:=va_0 (ha.va q hq)
    exact⟨this.2.1,by rw[hl];exact ha.by_ q hq⟩)
   unfold rw3 aR at g
   unfold rw2 aR
   unfold aR at cs
   unfold slH slQ at*
   exact .to mo_ [.ow 9 (.rw TCl 35 [])] [1,9,10,11] [0,1] 2 [na lt,cl cs] g (by kernel_rfl)
/-- What is wanted. -/
noncomputable def wantW (n:Nat) (L:List CQ) (H:List (Int×DG)):List CQ:=if wantE n L H=0 then kpt (knwn H) (sorted L)else[]
theorem e_rwant (ha:Arc n L) (hn:H.length≤1000):PRW n L H (wD (wantW n L H) (wantE n L H)):=by
 by_cases hl:H.length=n
 · refine rw_go hl (rw_1 hn (fun hb=> ?_) fun hb=> ?_)
   · have e:wantE n L H=1:=if_pos (.inr hb)
     unfold wantW
     rw[e,if_neg (by decide)]
   · have h1:¬(H.length≠n∨H.any badH=true):=fun g=>g.elim (fun g=>g hl) fun g=>by rw[hb]at g;cases g
     have e1:wantE n L H=if((List.range n).any fun k=>oddH L k (H.getD k (0,zD)))=true then 9 else 0:=if_neg h1
     have g:=rw_2 ha hl hb
     unfold wantW
     rw[e1]
     by_cases h2:((List.range n).any fun k=>oddH L k (H.getD k (0,zD)))=true
     · rw[if_pos h2]at g
       rw[if_pos h2,if_neg (by decide)]
       exact g
     · rw[if_neg h2]at g
       rw[if_neg h2,if_pos rfl]
       exact g
 · have e:wantE n L H=1:=if_pos (.inl hl)
   unfold wantW
   rw[e,if_neg (by decide)]
   exact rw_len hl
end
end Go.Proofs.YtmgagedefmmloaaGreatDoor.E.Ca
namespace Go.Proofs.YtmgagedefmmloaaGreatDoor.E.Ca
open Go.RowKit Hs
set_option linter.unusedVariables false
set_option linter.unusedSimpArgs false
section
variable {L C R:List CQ} {p:Int×Int} {q r c:CQ} {b:Int} {i j k m n:Nat} {O:List (Int×Int)}
/-- Names that were made so far: in their order, of claims that are there, before (b, i). -/
structure Nms (L:List CQ) (most b i:Nat) (O:List (Int×Int)):Prop where
 sr:O.Pairwise fun x y=>lessN x y=true
 inn:∀ p∈O,∃ q∈L,q.cm.nm=p
 lt:∀ p∈O,p.1<(b:Int)∨(p.1=(b:Int)∧p.2<(i:Int))
 ln:O.length≤most
theorem Nms.next {b':Nat} (h:Nms L m b' i O) (hb:b'+1=k):Nms L m k 0 O:=⟨h.sr,h.inn,fun p hp=>by rcases h.lt p hp with h|h<;>exact .inl (by omega),h.ln⟩
theorem Nms.skip (h:Nms L m k i O):Nms L m k (i+1) O:=⟨h.sr,h.inn,fun p hp=>by rcases h.lt p hp with h|h;exact .inl h;exact .inr ⟨h.1,by omega⟩,h.ln⟩
theorem Nms.add (h:Nms L m k i O) (hq:q∈L) (e:q.cm.nm=((k:Int),(i:Int))) (hl:O.length<m):Nms L m k (i+1) (O++[q.cm.nm]):=by
 refine⟨List.pairwise_append.2 ⟨h.sr,List.pairwise_singleton _ _,fun x hx y hy=> ?_⟩,fun p hp=> ?_,fun p hp=> ?_,by rw[List.length_append];simp only[List.length_cons,List.length_nil];omega⟩
 · rw[List.mem_singleton]at hy
   subst hy
   rw[e]
   unfold lessN
   rcases h.lt x hx with g|g
   · rw[decide_eq_true g];rfl
   · rw[Bool.or_eq_true]
     right
     rw[Bool.and_eq_true]
     exact⟨by simpa using g.1,decide_eq_true g.2⟩
 · rcases List.mem_append.1 hp with hp|hp
   · exact h.inn p hp
   · rw[List.mem_singleton]at hp;exact⟨q,hq,hp.symm⟩
 · rcases List.mem_append.1 hp with hp|hp
   · rcases h.lt p hp with g|g
     · exact .inl g
     · exact .inr ⟨g.1,by omega⟩
   · rw[List.mem_singleton]at hp
     subst hp
     rw[e]
     exact .inr ⟨rfl,by show(i:Int)<_;omega⟩
def nxB (k:Nat):Nat:=k / 2+k % 2*7919
def nmI (b most:Nat):List CQ→Nat→List (Int×Int)→Nat×List (Int×Int)
 |[],bits,O=>(bits,O)
 |q::r,bits,O=>if O.length<most then nmI b most r (nxB bits) (if bits % 2=1 then O++[((b:Int),q.seq)]else O)else(bits,O)
def nmA (L:List CQ) (most:Nat):Nat→Nat→Nat→List (Int×Int)→List (Int×Int)
 |0,_,_,O=>O
 |d+1,b,bits,O=>nmA L most d (b+1) (nmI b most (chn L (b:Int)) bits O).1 (nmI b most (chn L (b:Int)) bits O).2
/-- The names. -/
def nmsF (n:Nat) (L:List CQ) (bits most:Nat):List (Int×Int):=nmA L most n 0 bits []
theorem nxB_le (h:k≤16000):nxB k≤16000:=by unfold nxB;omega
theorem nmI_ok (ha:Arc n L) {most b:Nat}:∀ (d i:Nat),i+d=(chn L (b:Int)).length→∀ bits O,bits≤16000→Nms L most b i O→(nmI b most ((chn L (b:Int)).drop i) bits O).1≤16000∧Nms L most (b+1) 0 (nmI b most ((chn L (b:Int)).drop i) bits O).2
 |0,i,hi,bits,O,hb,h=>by
  rw[List.drop_eq_nil_of_le (by omega),nmI]
  exact⟨hb,h.next rfl⟩
 |d+1,i,hi,bits,O,hb,h=>by
  obtain⟨q,hq⟩:∃ q,(chn L (b:Int))[i]? =some q:=⟨_,List.getElem?_eq_getElem (by omega)⟩
  have dr:(chn L (b:Int)).drop i=q::(chn L (b:Int)).drop (i+1):=by
   obtain⟨l1,g1⟩:=List.getElem?_eq_some_iff.1 hq
   rw[List.drop_eq_getElem_cons l1,g1]
  rw[dr,nmI]
  split
  · rename_i hl
    refine nmI_ok ha d (i+1) (by omega) _ _ (nxB_le hb) ?_
    split
    · have hm:=chn_mem.1 (List.mem_of_getElem? hq)
      have hs:=ha.seq _ _ _ hq
      have e:q.cm.nm=((b:Int),(i:Int)):=by show(q.by_,q.seq)=_;rw[hm.2,hs]
      have:=h.add hm.1 e hl
      rw[e,←hs]at this
      exact this
    · exact h.skip
  · exact⟨hb,Nms.next ⟨h.sr,h.inn,fun p hp=>h.lt p hp,h.ln⟩ rfl⟩
theorem nmA_ok (ha:Arc n L) {most:Nat}:∀ (d b bits:Nat) (O:List (Int×Int)),bits≤16000→Nms L most b 0 O→Nms L most (b+d) 0 (nmA L most d b bits O)
 |0,b,bits,O,hb,h=>h
 |d+1,b,bits,O,hb,h=>by
  have g:=nmI_ok ha (most:=most) (b:=b) (chn L (b:Int)).length 0 (by omega) bits O hb h
  rw[List.drop_zero]at g
  have:=nmA_ok ha (most:=most) d (b+1) _ _ g.1 g.2
  rw[show b+(d+1)=b+1+d by omega]
  exact this
theorem nms_ok (ha:Arc n L) {bits most:Nat} (hb:bits≤16000):Nms L most n 0 (nmsF n L bits most):=by
 have:=nmA_ok ha (most:=most) n 0 bits [] hb ⟨.nil,fun p h=>(by cases h),fun p h=>(by cases h),Nat.zero_le _⟩
 rw[Nat.zero_add]at this
 exact this
noncomputable abbrev fNm:Func:=fnOf PP 56
abbrev TNm:Nat:= 79
noncomputable def nm1 (n:Nat) (L:List CQ) (bits most b:Nat) (O:List (Int×Int)):St:=at_ fNm [(1,ni bits),(2,ni most),(3,.lp 0 0),(7,.ow 1),(8,ni b)] [.bx TRA (aR n L),.rw TNm 2 (rfs O)]
noncomputable def nm2 (n:Nat) (L:List CQ) (bits most b i:Nat) (O:List (Int×Int)):St:=at_ fNm [(1,ni bits),(2,ni most),(3,.lp 0 0),(7,.ow 1),(8,ni b),(9,slQ (chn L (b:Int))),(10,ni i)] [.bx TRA (aR n L),.rw TNm 2 (rfs O)]
abbrev GNm (OUT:List (Int×Int)) (td:List Item) (σ:St):Prop:=Gd PP 56 (.sl (rfs OUT)) td σ
theorem bits_next (h:k≤16000):((k:Int).tdiv 2)=((k / 2:Nat):Int)∧((k:Int).tmod 2)=((k % 2:Nat):Int):=⟨by rw[td_ (by omega)];omega,by rw[tm_ (by omega)];omega⟩
theorem nm_in {most b:Nat} {OUT:List (Int×Int)} (ha:Arc n L) (hm:most≤100) (hbn:b<n) (next:∀ bits O,bits≤16000→O.length≤most→nmA L most (n - (b+1)) (b+1) bits O=OUT→GNm OUT (lp fNm 0) (nm1 n L bits most (b+1) O)) {bits:Nat} {O:List (Int×Int)} (hk:bits≤16000) (h0:O.length≤most) (hO:nmA L most (n - b) b bits O=OUT):
  GNm OUT (lp fNm 1) (nm2 n L bits most b 0 O):=by
 have n1:=ha.n1
 have len:=chn_le L (b:Int)
 have hl:=ha.len
 have ll:((chn L (b:Int)).map dQ).length=(chn L (b:Int)).length:=List.length_map ..
 rw[show n - b=(n - (b+1))+1 by omega,nmA]at hO
 refine Gd.loop (fun x:Nat×Nat×List (Int×Int)=>nm2 n L x.2.1 most b x.1 x.2.2) (fun x=>x.1≤(chn L (b:Int)).length∧x.2.1≤16000∧x.2.2.length≤most∧nmI b most ((chn L (b:Int)).drop x.1) x.2.1 x.2.2=nmI b most (chn L (b:Int)) bits O) (fun x=>(chn L (b:Int)).length - x.1) ?_ (0,bits,O) ⟨Nat.zero_le _,hk,h0,by rw[List.drop_zero]⟩
 generalize hR:nmI b most (chn L (b:Int)) bits O=R at hO⊢
 obtain⟨bits',O'⟩:=R
 rintro ⟨i,bits,O⟩ ⟨hi,hk,h0,hI⟩ ih
 simp only at hi hk h0 hI hO ih
 have lO:=rfs_len O
 have out:(bits,O)=(bits',O')→(GNm OUT (lp fNm 0) (nm1 n L bits most (b+1) O)):=fun e=>by
  injection e with e1 e2
  subst e1;subst e2
  exact next bits O hk h0 hO
 by_cases h:i<(chn L (b:Int)).length
 · have lt:decide ((i:Int)<(((chn L (b:Int)).map dQ).length:Int))=true:=decide_eq_true (by omega)
   obtain⟨q,hq⟩:∃ q,(chn L (b:Int))[i]? =some q:=⟨_,List.getElem?_eq_getElem h⟩
   have dr:(chn L (b:Int)).drop i=q::(chn L (b:Int)).drop (i+1):=by
    obtain⟨l1,g1⟩:=List.getElem?_eq_some_iff.1 hq
    rw[List.drop_eq_getElem_cons l1,g1]
   rw[dr,nmI]at hI
   have s1:=dQ_at hq
   by_cases hm2:O.length<most
   · rw[if_pos hm2]at hI
     have lt2:decide (((rfs O).length:Int)<(most:Int))=true:=decide_eq_true (by omega)
     obtain⟨b1,b2⟩:=bits_next hk
     have nb:=nxB_le hk
     by_cases hb:bits % 2=1
     · rw[if_pos hb]at hI
       have nx:=ih (i+1,nxB bits,O++[((b:Int),q.seq)]) ⟨h,nb,by simp only;rw[List.length_append];simp only[List.length_cons,List.length_nil];omega,hI⟩ (by simp only;omega)
       have e1:((((bits % 2:Nat):Int))==1)=true:=by rw[hb];rfl
       have ap:rfs O++[E.nm ((b:Int),q.seq)]=rfs (O++[((b:Int),q.seq)]):=by rw[←rfs_app];rfl
       have al:(rfs (O++[((b:Int),q.seq)])).length≤2000:=by rw[rfs_len,List.length_append];simp only[List.length_cons,List.length_nil];omega
       unfold nxB at nx
       unfold nm2 aR at nx⊢
       unfold slQ at*
       generalize (chn L (b:Int)).map dQ=CC at*
       generalize rfs (O++[((b:Int),q.seq)])=R2 at*
       generalize rfs O=R1 at*
       exact .to mo_ [.mv 1 3] [1,2,3,7,8,9,10] [0,1] 2 [ye lt,ye lt2,.eqv 33 (ni ((bits:Int).tmod 2)) (ni ((bits % 2:Nat):Int)) (by rw[b2]),ye e1,.sel _ _ _ s1,.app _ _ _ 2000 ap (Nat.zero_lt_succ _) al,wq 46 ((bits:Int).tdiv 2) ((bits / 2:Nat):Int) (by omega),.eqv 48 (ni ((bits:Int).tmod 2)) (ni ((bits % 2:Nat):Int)) (by rw[b2]),wq 49 (((bits % 2:Nat):Int)*7919) ((bits % 2*7919:Nat):Int) (by omega),wq 50 (((bits / 2:Nat):Int)+((bits % 2*7919:Nat):Int)) ((bits / 2+bits % 2*7919:Nat):Int) (by omega),inc 31 i (by omega)] nx (by kernel_rfl)
     · rw[if_neg hb]at hI
       have nx:=ih (i+1,nxB bits,O) ⟨h,nb,h0,hI⟩ (by simp only;omega)
       have e1:((((bits % 2:Nat):Int))==1)=false:=by rw[show bits % 2=0 by omega];rfl
       unfold nxB at nx
       unfold nm2 aR at nx⊢
       unfold slQ at*
       generalize (chn L (b:Int)).map dQ=CC at*
       generalize rfs O=R1 at*
       exact .to mo_ [] [1,2,3,7,8,9,10] [0,1] 2 [ye lt,ye lt2,.eqv 33 (ni ((bits:Int).tmod 2)) (ni ((bits % 2:Nat):Int)) (by rw[b2]),na e1,wq 46 ((bits:Int).tdiv 2) ((bits / 2:Nat):Int) (by omega),.eqv 48 (ni ((bits:Int).tmod 2)) (ni ((bits % 2:Nat):Int)) (by rw[b2]),wq 49 (((bits % 2:Nat):Int)*7919) ((bits % 2*7919:Nat):Int) (by omega),wq 50 (((bits / 2:Nat):Int)+((bits % 2*7919:Nat):Int)) ((bits / 2+bits % 2*7919:Nat):Int) (by omega),inc 31 i (by omega)] nx (by kernel_rfl)
   · rw[if_neg hm2]at hI
     have g:=out hI
     have lt2:decide (((rfs O).length:Int)<(most:Int))=false:=decide_eq_false (by omega)
     unfold nm1 aR at g
     unfold nm2 aR
     unfold slQ at*
     exact .to mo_ [] [1,2,3,7,8] [0,1] 2 [ye lt,na lt2,inc 16 b (by omega)] g (by kernel_rfl)
 · rw[List.drop_eq_nil_of_le (by omega),nmI]at hI
   have g:=out hI
   have lt:decide ((i:Int)<(((chn L (b:Int)).map dQ).length:Int))=false:=decide_eq_false (by omega)
   unfold nm1 aR at g
   unfold nm2 aR
   unfold slQ at*
   exact .to mo_ [] [1,2,3,7,8] [0,1] 2 [na lt,nf,inc 16 b (by omega)] g (by kernel_rfl)
theorem e_names {bits most:Nat} (ha:Arc n L) (hk:bits≤16000) (hm:most≤100):Pure PP 56 [.ag (aR n L),ni bits,ni most] (.sl (rfs (nmsF n L bits most))):=by
 have n1:=ha.n1
 have hL:L.length≤1000:=by have:=ha.len;omega
 refine pf (by kernel_rfl) (.to mo_ [.ow 7 (.rw TNm 2 [])] [1,2,3,7,8] [0,1] 2 [] (td':=lp fNm 0) (σ':=nm1 n L bits most 0 []) ?_ (by kernel_rfl))
 refine Gd.loop (fun x:Nat×Nat×List (Int×Int)=>nm1 n L x.2.1 most x.1 x.2.2) (fun x=>x.1≤n∧x.2.1≤16000∧x.2.2.length≤most∧nmA L most (n - x.1) x.1 x.2.1 x.2.2=nmsF n L bits most) (fun x=>n - x.1) ?_ (0,bits,[]) ⟨Nat.zero_le _,hk,Nat.zero_le _,rfl⟩
 rintro ⟨b,bits1,O⟩ ⟨hb,hk1,h0,hO⟩ ih
 simp only at hb hk1 h0 hO ih
 by_cases h:b<n
 · have lt:decide ((b:Int)<(n:Int))=true:=decide_eq_true (by omega)
   have ch:=e_rchain (n:=n) (b:=(b:Int)) hL
   have g:=nm_in ha hm h (fun bits O h1 h2 h3=>ih (b+1,bits,O) ⟨h,h1,h2,h3⟩ (by simp only;omega)) hk1 h0 hO
   unfold nm2 aR at g
   unfold nm1 aR
   unfold aR at ch
   unfold slQ at*
   exact .to mo_ [] [1,2,3,7,8,9,10] [0,1] 2 [ye lt,cl ch] g (by kernel_rfl)
 · have:b=n:=by omega
   subst this
   have lt:decide ((b:Int)<(b:Int))=false:=decide_eq_false (by omega)
   rw[Nat.sub_self,nmA]at hO
   rw[←hO]
   unfold nm1 aR
   unfold slQ
   exact fi [na lt] (by kernel_rfl) (by kernel_rfl)
end
end Go.Proofs.YtmgagedefmmloaaGreatDoor.E.Ca
