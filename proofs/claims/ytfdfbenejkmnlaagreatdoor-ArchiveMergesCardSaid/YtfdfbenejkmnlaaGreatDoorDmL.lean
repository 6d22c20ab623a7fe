/-
 ARCHIVES: Want.
-/
import Derived.Test.YtfdfbenejkmnlaaGreatDoorEvT0
import Derived.Test.YtfdfbenejkmnlaaGreatDoorDmD
namespace Go.Proofs.YtfdfbenejkmnlaaGreatDoor.E.Ca
open Go.RowKit Hs
set_option linter.unusedVariables false
set_option linter.unusedSimpArgs false
section
variable {L M C A l:List CQ} {p:Int×Int} {q r c o:CQ} {b:Int} {i j k n:Nat} {cs:List Int} {t:Int}
theorem tick_le (ha:Arc n L) (hq:q∈L):0≤q.tick∧q.tick≤1048576:=by
 have:=va_0 (ha.va q hq)
 exact⟨this.2.2.2.2.2.1,this.2.2.2.2.2.2⟩
theorem clk_le (ha:Arc n L):∀ k,0≤clkP L k∧clkP L k≤1048576
 |0=>⟨Int.le_refl _,show(0:Int)≤1048576 by decide⟩
 |k+1=>by
  have ih:=clk_le ha k
  unfold clkP
  cases h:(chn L (k:Int)).getLast? with
  |none=>exact ih
  |some q=>
   have:=tick_le ha (chn_mem.1 (List.mem_of_getLast? h)).1
   show 0≤max (clkP L k) q.tick∧max (clkP L k) q.tick≤1048576
   omega
/-- The claim that Make makes. -/
def mkQ (n:Nat) (L:List CQ) (c:CQ):CQ:={c with seq:=((chn L c.by_).length:Int),tick:=clkP L n+1}
theorem mkQ_sq (ha:Arc n L) (hc:Sq c):Sq (mkQ n L c):=by
 have h1:=clk_le ha n
 have h2:=chn_le L c.by_
 have h3:=ha.len
 refine⟨fun x hx=> ?_,hc.r,hc.f,hc.q,hc.n⟩
 have hh:=hc.h
 simp only[hdQ,mkQ,List.mem_cons,List.not_mem_nil,or_false]at hx hh
 unfold W.Is64
 rcases hx with rfl|rfl|rfl|rfl|rfl
 · exact hh _ (.inl rfl)
 · omega
 · omega
 · exact hh _ (.inr (.inr (.inr (.inl rfl))))
 · exact hh _ (.inr (.inr (.inr (.inr rfl))))
abbrev PM (cs:List Int) (L:List CQ) (c:CQ) (D:RD):Prop:=PureT PP 51 (hA_ cs L) [.lp 2 0,.ag (dQ c)] D
theorem mk_neg (h:c.by_<0):PM cs L c (.io 3 (hA_ cs L) (.tu [.ag zlC,ni 1])):=by
 have h1:decide (c.by_<0)=true:=decide_eq_true h
 unfold PM hA_
 generalize mpL L=M at*
 exact trT [pnA 9 2,nf,ye h1,yt] (by kernel_rfl)
theorem mk_big (h0:0≤c.by_) (h:((zs cs).length:Int)≤c.by_):PM cs L c (.io 3 (hA_ cs L) (.tu [.ag zlC,ni 1])):=by
 have h1:decide (c.by_<0)=false:=decide_eq_false (by omega)
 have h2:decide (c.by_≥((zs cs).length:Int))=true:=decide_eq_true h
 unfold PM hA_
 generalize mpL L=M at*
 exact trT [pnA 9 2,nf,na h1,nk 19 2,ye h2] (by kernel_rfl)
theorem mk_some {v:Int} (hn:c.refs.length≤1000) (hb:c.by_=(k:Int)) (hk:(zs cs)[k]? =some [ni (j:Int)]) (ht:0≤t∧t≤1048576) (ck:PureT PP 52 (hA_ cs L) [.lp 2 0] (.io 3 (hA_ cs L) (ni t))) (q:CQ) (hq:q={c with seq:=(j:Int),tick:=t+1}) {cs':List Int} {L':List CQ} {f:Bool} {D:List HO×V}
 (tk:PT cs L q (aD cs' L' f v)) (hv:(v != 0)=true):PM cs L c (.io 3 (hA_ cs' L') (.tu [.ag zlC,ni v])):=by
 have h1:decide (c.by_<0)=false:=decide_eq_false (by omega)
 have h2:decide (c.by_≥((zs cs).length:Int))=false:=decide_eq_false (by have:=(List.getElem?_eq_some_iff.1 hk).1;omega)
 have ow:=e_own c.cm hn
 have ckx:Ext PP (mkC1 #[TPA]) [.cl 52 [],.lp 2 0] (lrd (hA_ cs L) 0) [] (ni t):=x_lend0 ck (by kernel_rfl)
 subst hq
 unfold PT aD at tk
 unfold PM
 unfold hA_ at*
 generalize mpL L=M at*
 generalize mpL L'=M' at*
 exact trT [pnA 9 2,nf,na h1,nk 19 2,na h2,cl ow,nk 29 2,.eqv 33 (ni c.by_) (ni (k:Int)) (by rw[hb]),.sel _ _ _ hk,.sel _ _ _ hk,.ext (some 37) _ _ _ _ _ ckx,wq 38 (t+1) (t+1) (by omega),.lend _ _ _ _ [0,1,2] tk,ye hv] (by kernel_rfl)
theorem mk_ok (hn:c.refs.length≤1000) (hb:c.by_=(k:Int)) (hk:(zs cs)[k]? =some [ni (j:Int)]) (ht:0≤t∧t≤1048576) (ck:PureT PP 52 (hA_ cs L) [.lp 2 0] (.io 3 (hA_ cs L) (ni t))) (q:CQ) (hq:q={c with seq:=(j:Int),tick:=t+1}) {cs':List Int} {L':List CQ} {f:Bool}
 (tk:PT cs L q (aD cs' L' f 0)):PM cs L c (.io 3 (hA_ cs' L') (.tu [.ag (dQ q),ni 0])):=by
 have h1:decide (c.by_<0)=false:=decide_eq_false (by omega)
 have h2:decide (c.by_≥((zs cs).length:Int))=false:=decide_eq_false (by have:=(List.getElem?_eq_some_iff.1 hk).1;omega)
 have ow:=e_own c.cm hn
 have ckx:Ext PP (mkC1 #[TPA]) [.cl 52 [],.lp 2 0] (lrd (hA_ cs L) 0) [] (ni t):=x_lend0 ck (by kernel_rfl)
 subst hq
 unfold PT aD at tk
 unfold PM
 unfold hA_ at*
 generalize mpL L=M at*
 generalize mpL L'=M' at*
 exact trT [pnA 9 2,nf,na h1,nk 19 2,na h2,cl ow,nk 29 2,.eqv 33 (ni c.by_) (ni (k:Int)) (by rw[hb]),.sel _ _ _ hk,.sel _ _ _ hk,.ext (some 37) _ _ _ _ _ ckx,wq 38 (t+1) (t+1) (by omega),.lend _ _ _ _ [0,1,2] tk,nf] (by kernel_rfl)
/-- The error of Make, its claim, what is there behind it. -/
noncomputable def mkE (n:Nat) (L:List CQ) (c:CQ):Int:=if 0≤c.by_∧c.by_<(n:Int)then tkE n L (mkQ n L c)else 1
noncomputable def mkV (n:Nat) (L:List CQ) (c:CQ):List V:=if mkE n L c=0 then dQ (mkQ n L c)else zlC
noncomputable def mkL (n:Nat) (L:List CQ) (c:CQ):List CQ:=if mkE n L c=0 then tkL n L (mkQ n L c)else L
theorem e_makeA (ha:Arc n L) (hc:Sq c) (hf:FBits 100 c.cm.fit):PM (cnts n L) L c (.io 3 (hA_ (cnts n (mkL n L c)) (mkL n L c)) (.tu [.ag (mkV n L c),ni (mkE n L c)])):=by
 have zc:=zs_cnts (n:=n) (L:=L)
 by_cases hb:0≤c.by_∧c.by_<(n:Int)
 · have e:mkE n L c=tkE n L (mkQ n L c):=if_pos hb
   obtain⟨k,hk⟩:∃ k:Nat,c.by_=(k:Int):=⟨c.by_.toNat,by omega⟩
   have s1:=cnts_at (L:=L) (n:=n) (k:=k) (by omega)
   have tk:=e_take ha (mkQ_sq ha hc) (c:=mkQ n L c) hf
   have ck:=e_clock ha
   have cl_:=clk_le ha n
   have hn:c.refs.length≤1000:=by have:=hc.n;omega
   have hq:mkQ n L c={c with seq:=((chn L (k:Int)).length:Int),tick:=clkP L n+1}:=by unfold mkQ;rw[hk]
   by_cases h0:tkE n L (mkQ n L c)=0
   · have h1:mkE n L c=0:=e.trans h0
     have e1:mkV n L c=dQ (mkQ n L c):=if_pos h1
     have e2:mkL n L c=tkL n L (mkQ n L c):=if_pos h1
     rw[e1,e2,h1]
     rw[h0]at tk
     exact mk_ok hn hk s1 cl_ ck _ hq tk
   · have h1:¬mkE n L c=0:=fun h=>h0 (e.symm.trans h)
     have e1:mkV n L c=zlC:=if_neg h1
     have e2:mkL n L c=L:=if_neg h1
     obtain⟨g1,g2⟩:=tkL_e h0
     rw[g1]at tk
     rw[e1,e2,e]
     exact mk_some (D:=([],.un)) hn hk s1 cl_ ck _ hq tk (by simpa using h0)
 · have e:mkE n L c=1:=if_neg hb
   have h1:¬mkE n L c=0:=by rw[e];decide
   have e1:mkV n L c=zlC:=if_neg h1
   have e2:mkL n L c=L:=if_neg h1
   rw[e1,e2,e]
   by_cases h:c.by_<0
   · exact mk_neg h
   · exact mk_big (by omega) (by omega)
theorem mkL_arc (ha:Arc n L) (hc:Sq c) (hf:FBits 100 c.cm.fit):Arc n (mkL n L c):=by
 unfold mkL
 split
 · exact tkL_arc ha (mkQ_sq ha hc) hf
 · exact ha
/-- The claims of the first museums. -/
def allP (L:List CQ):Nat→List CQ
 |0=>[]
 |k+1=>allP L k++chn L (k:Int)
theorem allP_mem:∀ k,q∈allP L k↔q∈L∧0≤q.by_∧q.by_<(k:Int)
 |0=>⟨fun h=>(by cases h),fun h=>absurd h.2 (by omega)⟩
 |k+1=>by
  unfold allP
  rw[List.mem_append,allP_mem k,chn_mem]
  constructor
  · rintro (h|h)
    · exact⟨h.1,by omega⟩
    · exact⟨h.1,by omega⟩
  · intro h
    by_cases e:q.by_=(k:Int)
    · exact .inr ⟨h.1,e⟩
    · exact .inl ⟨h.1,by omega⟩
theorem allP_len (ha:Arc n L):∀ k,k≤5→(allP L k).length≤200*k
 |0,_=>Nat.le_refl _
 |k+1,h=>by
  have:=allP_len ha k (by omega)
  have:=chn_le L (k:Int)
  have:=ha.len
  unfold allP
  rw[List.length_append]
  omega
theorem allP_sorted (ha:Arc n L):sorted (allP L n)=sorted L:=
 sorted_same ha.sq fun q=>by
  rw[allP_mem]
  refine⟨fun h=>h.1,fun h=>⟨h, ?_,ha.by_ q h⟩⟩
  have:=va_0 (ha.va q h)
  exact this.2.1
noncomputable abbrev fCs:Func:=fnOf PP 10
noncomputable def clX (cs:List Int) (M:List CQ) (n:Nat) (A:List CQ) (k:Nat):St:=at_ fCs [(0,.lp 2 0),(3,.ow 3),(13,.ow 0),(14,ni n),(15,ni k)] (hB_ cs M A)
noncomputable def clY (cs:List Int) (M:List CQ) (n:Nat) (A C:List CQ) (k j:Nat):St:=at_ fCs [(0,.lp 2 0),(3,.ow 3),(13,.ow 0),(14,ni n),(15,ni k),(23,slQ C),(24,ni C.length),(25,ni j)] (hB_ cs M (A++C.take j))
abbrev GCs (D:RD) (td:List Item) (σ:St):Prop:=Gd PP 10 D td σ
theorem cl_in {D:List HO×V} (hC:∀ q∈C,q.refs.length≤1000) (hn:(A++C).length≤2000) (hk:k<1000) (next:GCs (.io 3 D.1 D.2) (lp fCs 0) (clX cs M n (A++C) (k+1))):GCs (.io 3 D.1 D.2) (lp fCs 1) (clY cs M n A C k 0):=by
 have ll:(C.map dQ).length=C.length:=List.length_map ..
 rw[List.length_append]at hn
 refine Gd.loop (clY cs M n A C k) (fun j=>j≤C.length) (fun j=>C.length - j) ?_ 0 (Nat.zero_le _)
 intro j hj ih
 by_cases h:j<C.length
 · have lt:decide ((j:Int)<(C.length:Int))=true:=decide_eq_true (by omega)
   obtain⟨q,hq⟩:∃ q,C[j]? =some q:=⟨_,List.getElem?_eq_getElem h⟩
   have s1:=dQ_at hq
   have ow:=e_own q.cm (hC q (List.mem_of_getElem? hq))
   have nx:=ih (j+1) h (by omega)
   have ap:(A++C.take j).map dQ++[dQ q]=(A++C.take (j+1)).map dQ:=by rw[List.take_add_one,hq,←List.append_assoc,List.map_append (l₁:=A++C.take j)];rfl
   have al:((A++C.take (j+1)).map dQ).length≤2000:=by rw[List.length_map,List.length_append,List.length_take];omega
   unfold clY hB_ slQ at nx⊢
   generalize mpL M=MM at*
   generalize (A++C.take j).map dQ=R at*
   generalize (A++C.take (j+1)).map dQ=R2 at*
   exact .to mo_ [.mv 3 6] [0,3,13,14,15,23,24,25] [0,1,2,3] 4 [ye lt,.sel _ _ _ s1,cl ow,.app _ _ _ 2000 ap (Nat.zero_lt_succ _) al,inc 34 j (by omega)] nx (by kernel_rfl)
 · have lt:decide ((j:Int)<(C.length:Int))=false:=decide_eq_false (by omega)
   have:j=C.length:=by omega
   subst this
   unfold clY
   rw[List.take_length]
   unfold clX hB_ at next
   unfold hB_ slQ
   generalize mpL M=MM at*
   generalize (A++C).map dQ=R at*
   exact .to mo_ [] [0,3,13,14,15] [0,1,2,3] 4 [na lt,inc 35 k (by omega)] next (by kernel_rfl)
abbrev hD_ (cs:List Int) (M A S:List CQ):List HO:=[.rw TI 1 (zs cs),.mp (mpL M),.bx TArc [.ow 0,.nm 1],.fz (slQ A),.rw TCl 35 (S.map dQ)]
theorem e_claims (ha:Arc n L) (hM:∀ p,fnd M p=fnd L p):PureT PP 10 (hA_ (cnts n L) M) [.lp 2 0] (.io 3 (hD_ (cnts n L) M (allP L n) (sorted L)) (.ow 4)):=by
 have n1:=ha.n1
 have ln:ni ((zs (cnts n L)).length:Int)=ni (n:Int):=by rw[zs_cnts]
 refine pfT (by kernel_rfl) (.to mo_ [.ow 3 (.rw TCl 35 [])] [0,3,13,14,15] [0,1,2,3] 4 [pnA 9 2,nf,nk 11 2,.eqv 14 _ _ ln] (td':=lp fCs 0) (σ':=clX (cnts n L) M n (allP L 0) 0) ?_ (by kernel_rfl))
 refine Gd.loop (fun k=>clX (cnts n L) M n (allP L k) k) (fun k=>k≤n) (fun k=>n - k) ?_ 0 (Nat.zero_le _)
 intro k hk ih
 have al:=allP_len ha k (by omega)
 by_cases h:k<n
 · have lt:decide ((k:Int)<(n:Int))=true:=decide_eq_true (by omega)
   have s1:=cnts_at (L:=L) h
   have nx:=ih (k+1) h (by omega)
   have cl_:=chn_le L (k:Int)
   have len:=ha.len
   have ch:=e_chain (cs:=cnts n L) (M:=M) (b:=(k:Int)) (C:=chn L (k:Int)) (fun j q hq=>by rw[hM];exact fnd_chn ha hq) (by omega)
   have g:=cl_in (cs:=cnts n L) (M:=M) (n:=n) (A:=allP L k) (C:=chn L (k:Int)) (k:=k) (D:=(hD_ (cnts n L) M (allP L n) (sorted L),.ow 4)) (fun q hq=>by have:=(chn_sq ha q hq).n;omega) (by rw[List.length_append];omega) (by omega) nx
   have e24:ni (((chn L (k:Int)).map dQ).length:Int)=ni ((chn L (k:Int)).length:Int):=by rw[List.length_map]
   unfold clY at g
   rw[List.take_zero,List.append_nil]at g
   unfold clX
   unfold hB_ slQ at*
   generalize (chn L (k:Int)).map dQ=CC at*
   generalize (chn L (k:Int)).length=m at*
   generalize mpL M=MM at*
   generalize zs (cnts n L)=Z at*
   generalize (allP L k).map dQ=R at*
   exact .to mo_ [.fz 23] [0,3,13,14,15,23,24,25] [0,1,2,3] 4 [ye lt,.sel _ _ _ s1,.sel _ _ _ s1,.lend _ _ _ _ [0,1,2] ch,.eqv 24 _ _ e24] g (by kernel_rfl)
 · have lt:decide ((k:Int)<(n:Int))=false:=decide_eq_false (by omega)
   have:k=n:=by omega
   subst this
   have so:=e_csort (L:=allP L k) (fun q hq=>ha.sq q ((allP_mem k).1 hq).1) (by omega)
   rw[allP_sorted ha]at so
   unfold clX
   unfold hB_ hD_ slQ
   generalize mpL M=MM at*
   generalize (allP L k).map dQ=R at*
   generalize (sorted L).map dQ=R2 at*
   exact fi [na lt,cl so] (by kernel_rfl) (by kernel_rfl)
end
end Go.Proofs.YtfdfbenejkmnlaaGreatDoor.E.Ca
namespace Go.Proofs.YtfdfbenejkmnlaaGreatDoor.E.Ca
open Go.RowKit
set_option linter.unusedVariables false
set_option linter.unusedSimpArgs false
section
variable {q r:CQ} {A B C L S O:List CQ} {a i k n:Nat} {l m:List Int} {turn:Int}
theorem find_map (L:List CQ):L.map dQ=(L.map CQ.cm).map dC:=by rw[List.map_map];rfl
theorem e_findQ (L:List CQ) (p:Int×Int):Pure PP 15 [slQ L,.ag (E.nm p)] (ni (fidx (fun c:CM=>decide (c.nm=p)) (L.map CQ.cm))):=by
 have h:=e_find (L.map CQ.cm) p
 rw[←find_map]at h
 exact h
theorem find_at (h:S[i]? =some q) (pw:S.Pairwise fun a b=>cmp2 a b<0) (nm:∀ a∈S,∀ b∈S,a.cm.nm=b.cm.nm→a=b):fidx (fun c:CM=>decide (c.nm=q.cm.nm)) (S.map CQ.cm)=(i:Int):=by
 refine fidx_at (a:=q.cm) (fun t b ht hb=> ?_) (by rw[List.getElem?_map,h];rfl) (decide_eq_true rfl)
 rw[List.getElem?_map]at hb
 cases hx:S[t]? with
 |none=>rw[hx]at hb;cases hb
 |some x=>
  rw[hx]at hb
  injection hb with hb
  subst hb
  refine decide_eq_false fun e=> ?_
  have:=nm x (List.mem_of_getElem? hx) q (List.mem_of_getElem? h) e
  subst this
  obtain⟨l1,g1⟩:=List.getElem?_eq_some_iff.1 hx
  obtain⟨l2,g2⟩:=List.getElem?_eq_some_iff.1 h
  have:=List.pairwise_iff_getElem.1 pw t i l1 l2 ht
  rw[g1,g2,cmp2_cmp.refl]at this
  omega
end
end Go.Proofs.YtfdfbenejkmnlaaGreatDoor.E.Ca
namespace Go.Proofs.YtfdfbenejkmnlaaGreatDoor.E.Ca
open Go.RowKit Hs
set_option linter.unusedVariables false
set_option linter.unusedSimpArgs false
section
variable {L M C A l:List CQ} {p:Int×Int} {q r c o:CQ} {b:Int} {i j k n:Nat} {cs:List Int} {t:Int} {G:FuncId} {c0_:List V} {del:CM→Bool}
noncomputable abbrev fDF:Func:=fnOf PP 60
noncomputable def dX (G:FuncId) (c0_:List V) (R:List CQ) (i j:Nat):St:=at_ fDF [(0,.ow 0),(1,.cl G [.ip c0_]),(5,ni i),(6,ni j)] [.rw TCl 35 (R.map dQ)]
def kpt (del:CM→Bool) (L:List CQ):List CQ:=L.filter fun q=> !del q.cm
abbrev dE (W:List CQ):RD:= .io 1 [.dead,.rw TCl 35 (W.map dQ)] (.ow 1)
theorem kpt_next (h:A[j]? =some q):kpt del (A.take (j+1))=kpt del (A.take j)++(if del q.cm then[]else[q]):=by
 unfold kpt
 rw[List.take_add_one,h,List.filter_append]
 cases hd:del q.cm<;>simp[hd]
theorem kpt_le (A:List CQ) (j:Nat):(kpt del (A.take j)).length≤j:=by
 unfold kpt
 have:=List.length_filter_le (fun q:CQ=> !del q.cm) (A.take j)
 rw[List.length_take]at this
 omega
theorem df_end (hC:kpt del A=C) (h1:C.length<A.length) (hn:A.length<1000000):
  Gd PP 60 (dE C) (lp fDF 0) (dX G c0_ (rC C A) C.length A.length):=by
 have rl:((rC C A).map dQ).length=A.length:=by rw[List.length_map,rC_len (by omega)]
 have lt:decide ((A.length:Int)<(((rC C A).map dQ).length:Int))=false:=decide_eq_false (by omega)
 have tk:((rC C A).map dQ).take C.length=C.map dQ:=by
  unfold rC
  rw[List.map_append,List.take_left' (List.length_map ..)]
 have tk2:(((rC C A).map dQ).take C.length++List.replicate (A.length - C.length) zlC).take C.length=C.map dQ:=by
  rw[List.take_append_of_le_length (by rw[List.length_take];omega),List.take_take,Nat.min_self,tk]
 have ll:C.length≤(((rC C A).map dQ).take C.length++List.replicate (A.length - C.length) zlC).length:=by rw[List.length_append,List.length_take];omega
 unfold dX dE
 generalize (rC C A).map dQ=RM at*
 have cl_:=xcl (b:=0) (l:=RM) rl h1 rfl
 generalize RM.take C.length++List.replicate (A.length - C.length) zlC=RN at*
 generalize C.map dQ=W at*
 exact fi [na lt,.slo RM C.length RM.length ⟨by omega,by omega⟩ (by omega),.eqv 38 (.os 0 35 C.length RM.length) (.os 0 35 C.length A.length) (by rw[rl]),.ext none _ _ _ _ _ cl_,.trn RN W C.length tk2 ll] (by kernel_rfl) (by kernel_rfl)
theorem df_in (hd:∀ a∈A,Pure PP G [.ag (dQ a),.ip c0_] (bo (del a.cm))) (hn:A.length<1000000) (hj:j≤A.length) (h1:(kpt del (A.take j)).length<j):
  Gd PP 60 (dE (kpt del A)) (lp fDF 0) (dX G c0_ (rC (kpt del (A.take j)) A) (kpt del (A.take j)).length j):=by
 refine Gd.loop (fun j=>dX G c0_ (rC (kpt del (A.take j)) A) (kpt del (A.take j)).length j) (fun j=>j≤A.length∧(kpt del (A.take j)).length<j) (fun j=>A.length - j) ?_ j ⟨hj,h1⟩
 intro j ⟨hj,h1⟩ ih
 by_cases h:j<A.length
 · obtain⟨q,hq⟩:∃ q,A[j]? =some q:=⟨_,List.getElem?_eq_getElem h⟩
   have rl:((rC (kpt del (A.take j)) A).map dQ).length=A.length:=by rw[List.length_map,rC_len (by omega)]
   have lt:decide ((j:Int)<(((rC (kpt del (A.take j)) A).map dQ).length:Int))=true:=decide_eq_true (by omega)
   have s1:=dQ_at ((rC_at (C:=kpt del (A.take j)) (L:=A) (i:=j) (by omega)).trans hq)
   have cc:=hd q (List.mem_of_getElem? hq)
   have kn:=kpt_next (del:=del) hq
   cases hb:del q.cm with
   |true=>
    rw[hb]at cc
    rw[hb,if_pos rfl,List.append_nil]at kn
    have nx:=ih (j+1) ⟨h,by rw[kn];omega⟩ (by omega)
    rw[kn]at nx
    unfold dX at nx⊢
    generalize (rC (kpt del (A.take j)) A).map dQ=RM at*
    exact .to mo_ [] [0,1,5,6] [0] 1 [ye lt,.sel _ _ _ s1,.sel _ _ _ s1,cl cc,nf,inc 21 j (by omega)] nx (by kernel_rfl)
   |false=>
    rw[hb]at cc
    rw[hb,if_neg Bool.false_ne_true]at kn
    have nx:=ih (j+1) ⟨h,by rw[kn,List.length_append];simp only[List.length_cons,List.length_nil];omega⟩ (by omega)
    rw[kn,List.length_append,←rC_set (by omega) q]at nx
    obtain⟨o,ho⟩:∃ o,(rC (kpt del (A.take j)) A)[(kpt del (A.take j)).length]? =some o:=⟨_,List.getElem?_eq_getElem (by rw[rC_len (by omega)];omega)⟩
    have s3:=dQ_at ho
    have up:((rC (kpt del (A.take j)) A).map dQ).set (kpt del (A.take j)).length (dQ q)=((rC (kpt del (A.take j)) A).set (kpt del (A.take j)).length q).map dQ:=(List.map_set ..).symm
    have hi:=kpt_le (del:=del) A j
    unfold dX at nx⊢
    generalize ((rC (kpt del (A.take j)) A).set (kpt del (A.take j)).length q).map dQ=RN at*
    generalize (rC (kpt del (A.take j)) A).map dQ=RM at*
    generalize (kpt del (A.take j)).length=i at*
    exact .to mo_ [] [0,1,5,6] [0] 1 [ye lt,.sel _ _ _ s1,.sel _ _ _ s1,cl cc,yt,.sel _ _ _ s3,.upd _ _ _ _ _ s3 up,inc 35 i (by omega),inc 21 j (by omega)] nx (by kernel_rfl)
 · have:j=A.length:=by omega
   subst this
   rw[List.take_length]at h1⊢
   exact df_end rfl h1 hn
/-- DeleteFunc: nothing goes, or the row is a new one. -/
theorem e_delete (hd:∀ a∈A,Pure PP G [.ag (dQ a),.ip c0_] (bo (del a.cm))) (hn:A.length<1000000):
  (kpt del A=A∧PureT PP 60 [.rw TCl 35 (A.map dQ)] [.ow 0,.cl G [.ip c0_]] (cD A))∨PureT PP 60 [.rw TCl 35 (A.map dQ)] [.ow 0,.cl G [.ip c0_]] (dE (kpt del A)):=by
 have ix:=e_idxC (bad:=del) (A.map CQ.cm) (fun a ha=>by
  obtain⟨x,hx,rfl⟩:=List.mem_map.1 ha
  exact hd x hx)
 have em:(A.map CQ.cm).map dC=A.map dQ:=(find_map A).symm
 rw[em]at ix
 unfold fidx at ix
 cases hf:(A.map CQ.cm).findIdx? del with
 |none=>
  rw[hf]at ix
  rw[List.findIdx?_eq_none_iff]at hf
  refine .inl ⟨List.filter_eq_self.2 fun a ha=>by rw[hf a.cm (List.mem_map.2 ⟨a,ha,rfl⟩)];rfl, ?_⟩
  unfold cD
  generalize A.map dQ=R at*
  exact trT [cl ix,yt] (by kernel_rfl)
 |some i=>
  rw[hf]at ix
  rw[List.findIdx?_eq_some_iff_getElem]at hf
  obtain⟨hi,h1,h2⟩:=hf
  rw[List.length_map]at hi
  have hk:kpt del (A.take i)=A.take i:=List.filter_eq_self.2 fun a ha=>by
   obtain⟨t,ht,rfl⟩:=List.getElem_of_mem ha
   rw[List.length_take]at ht
   have:=h2 t (by omega)
   rw[List.getElem_map]at this
   rw[List.getElem_take]
   simpa using this
  have kn:=kpt_next (del:=del) (A:=A) (j:=i) (List.getElem?_eq_getElem hi)
  rw[List.getElem_map]at h1
  rw[h1,if_pos rfl,List.append_nil,hk]at kn
  have lt:(A.take i).length=i:=by rw[List.length_take];omega
  have g:=df_in (G:=G) (c0_:=c0_) (del:=del) (A:=A) (j:=i+1) hd hn (by omega) (by rw[kn,lt];omega)
  have hr:rC (A.take i) A=A:=by unfold rC;rw[lt];exact List.take_append_drop ..
  rw[kn,lt,hr]at g
  have ne:((i:Int)== -1)=false:=by simp
  refine .inr ?_
  unfold dX at g
  generalize A.map dQ=R at*
  exact pfT (by kernel_rfl) (.to mo_ [] [0,1,5,6] [0] 1 [cl ix,na ne,inc 15 i (by omega)] g (by kernel_rfl))
end
end Go.Proofs.YtfdfbenejkmnlaaGreatDoor.E.Ca
namespace Go.Proofs.YtfdfbenejkmnlaaGreatDoor.E.Ca
open Go.RowKit Hs
set_option linter.unusedVariables false
set_option linter.unusedSimpArgs false
section
variable {L M C A l:List CQ} {p:Int×Int} {q r c o:CQ} {b:Int} {i j k m n:Nat} {cs:List Int} {t:Int} {H:List (Int×DG)} {x:Int×DG}
noncomputable abbrev slH (H:List (Int×DG)):V:= .sl (H.map hdV)
def badH (x:Int×DG):Bool:=decide (x.1<0)||decide (x.1>200)
theorem e_wb (x:Int×DG):Pure PP 57 [.ag (hdV x)] (bo (badH x)):=by
 unfold badH
 cases h:decide (x.1<0)with
 |true=>exact tr [ye h] (by kernel_rfl)
 |false=>exact tr [na h] (by kernel_rfl)
noncomputable abbrev fIH:Func:=fnOf PP 90
theorem hd_at (h:H[i]? =some x):(H.map hdV)[i]? =some (hdV x):=by rw[List.getElem?_map,h];rfl
theorem e_idxH (hn:H.length≤100000):Pure PP 90 [slH H,.cl 57 []] (ni (fidx badH H)):=by
 have ll:(H.map hdV).length=H.length:=List.length_map ..
 let X:Nat→St:=fun i=>at_ fIH [(0,slH H),(1,.cl 57 []),(7,ni ((H.map hdV).length:Int)),(8,ni i)] []
 refine pf (by kernel_rfl) (.to mo_ [] [0,1,7,8] [] 0 [] (td':=lp fIH 0) (σ':=X 0) ?_ (by kernel_rfl))
 refine Gd.loop X (fun i=>i≤H.length∧∀ t b,t<i→H[t]? =some b→badH b=false) (fun i=>H.length - i) ?_ 0 ⟨Nat.zero_le _,no_zero⟩
 intro i ⟨hi,hI⟩ ih
 by_cases h:i<H.length
 · obtain⟨a,ha⟩:∃ a,H[i]? =some a:=⟨_,List.getElem?_eq_getElem h⟩
   have lt:decide ((i:Int)<((H.map hdV).length:Int))=true:=decide_eq_true (by omega)
   have cc:=e_wb a
   have s1:=hd_at ha
   cases hb:badH a with
   |true=>
    rw[hb]at cc
    rw[fidx_at hI ha hb]
    exact fi [ye lt,.sel _ _ _ s1,cl cc,yt] (by kernel_rfl) (by kernel_rfl)
   |false=>
    rw[hb]at cc
    exact .to mo_ [] [0,1,7,8] [] 0 [ye lt,.sel _ _ _ s1,cl cc,nf,inc 18 i (by omega)] (ih (i+1) ⟨h,no_step hI ha hb⟩ (by omega)) (by kernel_rfl)
 · have lt:decide ((i:Int)<((H.map hdV).length:Int))=false:=decide_eq_false (by omega)
   rw[fidx_no hI h]
   exact fi [na lt] (by kernel_rfl) (by kernel_rfl)
theorem e_contH (hn:H.length≤100000):Pure PP 56 [slH H,.cl 57 []] (bo (H.any badH)):=by
 rw[←fidx_any]
 exact tr [cl (e_idxH hn)] (by kernel_rfl)
/-- Is a claim known to one with these heads? -/
def knwn (H:List (Int×DG)) (c:CM):Bool:=decide (c.seq<(H.getD c.by_.toNat (0,zD)).1)
theorem e_known (h:0≤q.by_∧q.by_<(H.length:Int)):Pure PP 59 [.ag (dQ q),.ip [slH H]] (bo (knwn H q.cm)):=by
 obtain⟨k,hk⟩:∃ k:Nat,q.by_=(k:Int):=⟨q.by_.toNat,by omega⟩
 have hx:H[k]? =some (H.getD k (0,zD)):=getD_lt (by omega)
 have s1:=hd_at hx
 unfold knwn
 rw[show q.cm.by_.toNat=k by show q.by_.toNat=k;omega]
 generalize H.getD k (0,zD)=x at*
 exact tr [.eqv 8 (ni q.by_) (ni (k:Int)) (by rw[hk]),.sel _ _ _ s1] (by kernel_rfl)
/-- A head that tells of other claims than those that are there. -/
noncomputable def oddH (L:List CQ) (k:Nat) (x:Int×DG):Bool:=decide (x.1≤((chn L (k:Int)).length:Int))&& !dgE (sumW ((chn L (k:Int)).take x.1.toNat)) x.2
noncomputable def wantE (n:Nat) (L:List CQ) (H:List (Int×DG)):Int:=if H.length≠n∨H.any badH=true then 1 else if((List.range n).any fun k=>oddH L k (H.getD k (0,zD)))=true then 9 else 0
noncomputable abbrev fWt:Func:=fnOf PP 20
abbrev THs:Nat:= 63
abbrev hE_ (cs:List Int) (M:List CQ) (R:List (List V)):List HO:=[.rw TI 1 (zs cs),.mp (mpL M),.bx TArc [.ow 0,.nm 1],.bx THs [.sl R]]
noncomputable def wX (cs:List Int) (L:List CQ) (H:List (Int×DG)) (k:Nat):St:=at_ fWt [(0,.lp 2 0),(3,.lp 3 0),(23,slH H),(24,ni H.length),(25,ni k)] (hE_ cs L (H.map hdV))
abbrev PW (cs:List Int) (L:List CQ) (H:List (Int×DG)) (D:RD):Prop:=PureT PP 20 (hA_ cs L) [.lp 2 0,slH H] D
abbrev GW (D:RD) (td:List Item) (σ:St):Prop:=Gd PP 20 D td σ
abbrev wE (cs:List Int) (L:List CQ) (e:Int):RD:= .io 3 (hA_ cs L) (.tu [.nl,ni e])
abbrev wR (cs:List Int) (L W:List CQ):RD:= .io 3 (hA_ cs L) (.tu [slQ W,ni 0])
theorem w_len (hl:((H.length:Int) != ((zs cs).length:Int))=true):PW cs L H (wE cs L 1):=by
 have ln:ni ((H.map hdV).length:Int)=ni (H.length:Int):=by rw[List.length_map]
 unfold PW wE hA_ slH
 generalize mpL L=M at*
 exact trT [pnA 10 2,nf,.eqv 13 _ _ ln,nk 15 2,ye hl] (by kernel_rfl)
theorem w_bad (hn:H.length≤100000) (hl:((H.length:Int) != ((zs cs).length:Int))=false) (hb:H.any badH=true):PW cs L H (wE cs L 1):=by
 have ln:ni ((H.map hdV).length:Int)=ni (H.length:Int):=by rw[List.length_map]
 have ch:=e_contH hn
 rw[hb]at ch
 unfold PW wE hA_
 unfold slH at*
 generalize mpL L=M at*
 exact trT [pnA 10 2,nf,.eqv 13 _ _ ln,nk 15 2,na hl,cl ch,yt] (by kernel_rfl)
theorem w_go {D:List HO×V} (hn:H.length≤100000) (hl:((H.length:Int) != ((zs cs).length:Int))=false) (hb:H.any badH=false) (g:GW (.io 3 D.1 D.2) (lp fWt 0) (wX cs L H 0)):PW cs L H (.io 3 D.1 D.2):=by
 have ln:ni ((H.map hdV).length:Int)=ni (H.length:Int):=by rw[List.length_map]
 have ch:=e_contH hn
 rw[hb]at ch
 unfold wX hE_ at g
 unfold PW hA_
 unfold slH at*
 generalize mpL L=M at*
 exact pfT (by kernel_rfl) (.to mo_ [] [0,3,23,24,25] [0,1,2,3] 4 [pnA 10 2,nf,.eqv 13 _ _ ln,nk 15 2,na hl,cl ch,nf,.eqv 24 _ _ ln] g (by kernel_rfl))
theorem w_more {D:List HO×V} (hx:H[k]? =some x) (hn:H.length≤100000) (hk:(zs cs)[k]? =some [ni (m:Int)]) (h:¬x.1≤(m:Int)) (g:GW (.io 3 D.1 D.2) (lp fWt 0) (wX cs L H (k+1))):GW (.io 3 D.1 D.2) (lp fWt 0) (wX cs L H k):=by
 have hkl:=(List.getElem?_eq_some_iff.1 hx).1
 have lt:decide ((k:Int)<(H.length:Int))=true:=decide_eq_true (by omega)
 have s1:=hd_at hx
 have h1:decide (x.1≤(m:Int))=false:=decide_eq_false h
 unfold wX hE_ at g⊢
 unfold slH at*
 generalize mpL L=M at*
 exact .to mo_ [] [0,3,23,24,25] [0,1,2,3] 4 [ye lt,.sel _ _ _ s1,nk 33 2,.sel _ _ _ hk,.sel _ _ _ hk,na h1,nf,inc 51 k (by omega)] g (by kernel_rfl)
theorem w_same {D:List HO×V} (hx:H[k]? =some x) (hn:H.length≤100000) (hk:(zs cs)[k]? =some [ni (m:Int)]) (h:x.1≤(m:Int)) (hi:x.1=(i:Int)) (hC:C.length=i) (ch:PureT PP 32 (hA_ cs L) [.lp 2 0,ni (k:Int),ni (C.length:Int)] (.io 3 (hB_ cs L C) (.ow 3))) (sm:Pure PP 58 [slQ C] (.ag (w16 (sumW C)))) (hd:dgE (sumW C) x.2=true) (g:GW (.io 3 D.1 D.2) (lp fWt 0) (wX cs L H (k+1))):GW (.io 3 D.1 D.2) (lp fWt 0) (wX cs L H k):=by
 have hkl:=(List.getElem?_eq_some_iff.1 hx).1
 have lt:decide ((k:Int)<(H.length:Int))=true:=decide_eq_true (by omega)
 have s1:=hd_at hx
 have h1:decide (x.1≤(m:Int))=true:=decide_eq_true h
 have eq:=e_eqD (sumW C) x.2
 rw[hd]at eq
 unfold wX hE_ at g⊢
 unfold hA_ hB_ at ch
 unfold slH slQ at*
 generalize sumW C=W at*
 generalize C.map dQ=CC at*
 generalize mpL L=M at*
 exact .to mo_ [] [0,3,23,24,25] [0,1,2,3] 4 [ye lt,.sel _ _ _ s1,nk 33 2,.sel _ _ _ hk,.sel _ _ _ hk,ye h1,.eqv 44 (ni x.1) (ni (C.length:Int)) (by rw[hi,hC]),.lend _ _ _ _ [0,1,2] ch,cl sm,.eqa _ _ _ _ eq,nf,inc 51 k (by omega)] g (by kernel_rfl)
theorem w_odd (hx:H[k]? =some x) (hn:H.length≤100000) (hk:(zs cs)[k]? =some [ni (m:Int)]) (h:x.1≤(m:Int)) (hi:x.1=(i:Int)) (hC:C.length=i) (ch:PureT PP 32 (hA_ cs L) [.lp 2 0,ni (k:Int),ni (C.length:Int)] (.io 3 (hB_ cs L C) (.ow 3))) (sm:Pure PP 58 [slQ C] (.ag (w16 (sumW C)))) (hd:dgE (sumW C) x.2=false):GW (wE cs L 9) (lp fWt 0) (wX cs L H k):=by
 have hkl:=(List.getElem?_eq_some_iff.1 hx).1
 have lt:decide ((k:Int)<(H.length:Int))=true:=decide_eq_true (by omega)
 have s1:=hd_at hx
 have h1:decide (x.1≤(m:Int))=true:=decide_eq_true h
 have eq:=e_eqD (sumW C) x.2
 rw[hd]at eq
 unfold wX hE_
 unfold wE hA_
 unfold hA_ hB_ at ch
 unfold slH slQ at*
 generalize sumW C=W at*
 generalize C.map dQ=CC at*
 generalize mpL L=M at*
 exact fi [ye lt,.sel _ _ _ s1,nk 33 2,.sel _ _ _ hk,.sel _ _ _ hk,ye h1,.eqv 44 (ni x.1) (ni (C.length:Int)) (by rw[hi,hC]),.lend _ _ _ _ [0,1,2] ch,cl sm,.eqa _ _ _ _ eq,yt] (by kernel_rfl) (by kernel_rfl)
theorem w_end (cl_:PureT PP 10 (hA_ cs L) [.lp 2 0] (.io 3 (hD_ cs L A C) (.ow 4))) (hC:∀ q∈C,0≤q.by_∧q.by_<(H.length:Int)) (hn:C.length<1000000):GW (wR cs L (kpt (knwn H) C)) (lp fWt 0) (wX cs L H H.length):=by
 have lt:decide ((H.length:Int)<(H.length:Int))=false:=decide_eq_false (by omega)
 have de:=e_delete (A:=C) (G:= 59) (c0_:=[slH H]) (del:=knwn H) (fun a ha=>e_known (hC a ha)) hn
 have go:GW (wR cs L (kpt (knwn H) C)) (rg fWt 12) (at_ fWt [(0,.lp 2 0),(8,.cl 59 [.ip [slH H]])] (hA_ cs L)):=by
  unfold wR
  unfold hA_ hD_ at*
  unfold slQ at*
  rcases de with⟨e,de⟩|de
  · rw[e]
    unfold cD at de
    unfold slH at*
    generalize C.map dQ=CC at*
    generalize A.map dQ=AA at*
    generalize mpL L=M at*
    exact fiG [.fz 4] [.lend _ _ _ _ [0,1,2] cl_,.lend _ _ _ _ [4] de] (by kernel_rfl) (by kernel_rfl)
  · unfold dE at de
    generalize (kpt (knwn H) C).map dQ=KK at*
    unfold slH at*
    generalize C.map dQ=CC at*
    generalize A.map dQ=AA at*
    generalize mpL L=M at*
    exact fiG [.fz 4] [.lend _ _ _ _ [0,1,2] cl_,.lend _ _ _ _ [4] de] (by kernel_rfl) (by kernel_rfl)
 unfold hA_ at go
 unfold wX hE_
 generalize wR cs L (kpt (knwn H) C)=D at*
 unfold slH at*
 generalize mpL L=M at*
 exact .to mo_ [.fz 8] [0,8] [0,1,2] 3 [na lt] go (by kernel_rfl)
end
end Go.Proofs.YtfdfbenejkmnlaaGreatDoor.E.Ca
