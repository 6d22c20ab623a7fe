/-
 RULES TOLD FROM OUTSIDE: a call to which objects are lent, and which of them it turns.
-/
import Derived.Test.YtfdfbenejkmnlaaGreatDoorShV
import Derived.Test.YtfdfbenejkmnlaaGreatDoorDmD
import Derived.Test.YtfdfbenejkmnlaaGreatDoorShE
import Derived.Test.YtfdfbenejkmnlaaGreatDoorDrA
namespace Go.Proofs.YtfdfbenejkmnlaaGreatDoor.E.Ca
open Go.RowKit Hs
set_option linter.unusedVariables false
set_option linter.unusedSimpArgs false
section
variable {E:List UInt8} {q r:CQ} {L:List CQ} {i k n:Nat} {W:Nat→UInt8}
abbrev DG:Type:=Nat→UInt8
noncomputable def dgC (q:CQ):DG:=dgW 2 [encC q]
theorem inU_1 (tag:Nat) (E:List UInt8):(inU tag [E]).length≤E.length+10:=by
 have:=bsE_len E
 unfold inU
 simp
 omega
theorem inU_2 (tag:Nat) (E F:List UInt8):(inU tag [E,F]).length≤E.length+F.length+20:=by
 have:=bsE_len E
 have:=bsE_len F
 unfold inU
 simp
 omega
theorem e_dig (h:Sq q):Pure PP 92 [.ag (dQ q)] (.ag (w16 (dgC q))):=by
 have hl:=h.len
 have e:=Pure.ro (e_cenc h)
 have hi:=inU_1 2 (encC q)
 have o:=Hs.e_of 2 [encC q] (by omega) (by simp) (fun p hp=>by rw[List.mem_singleton.1 hp];omega) (by omega)
 unfold dgC
 generalize encC q=E at*
 exact tr [cl e,.str (byL E) E rfl,.ro,cl o] (by kernel_rfl)
/-- A digest's bytes. -/
def tx (W:DG):List UInt8:=(List.range 16).map W
theorem tx_len:(tx W).length=16:=by unfold tx;simp
theorem tx_at (h:i<16):(tx W).getD i 0=W i:=by
 unfold tx
 rw[List.getD_eq_getElem?_getD,List.getElem?_map,List.getElem?_range h]
 rfl
/-- The next sum. -/
noncomputable def nxD (W:DG) (q:CQ):DG:=dgW 3 [tx W,tx (dgC q)]
def zD:DG:=fun _=>0
noncomputable def sumW (L:List CQ):DG:=L.foldl nxD zD
theorem sumW_next (h:L[k]? =some q):sumW (L.take (k+1))=nxD (sumW (L.take k)) q:=by
 unfold sumW
 rw[List.take_add_one,h,List.foldl_append]
 rfl
theorem tx_cells (b:Nat):∀ i,i<(tx W).length→(w16 W)[0+i]? =some (bv ((tx W).getD i 0)):=fun i hi=>by
 rw[tx_len]at hi
 rw[Nat.zero_add,tx_at hi]
 unfold w16
 rw[List.getElem?_map,List.getElem?_range hi]
 rfl
theorem d_sl (b:Nat):Ext PP (mkSb0 TD) [.lp b 0] [] [] (.bs b 0 16 16):=x_bs0 (n:=16) (e:=T8b) (by kernel_rfl) (by kernel_rfl) (by omega)
theorem d_st (W:DG) (b:Nat):Ext PP (mkCv 89 9) [.bs b 0 16 16] [(b,.bx TD (w16 W))] [] (sV (tx W)):=by
 have h:=x_bss (P:=PP) (S:= 89) (D:= 9) (el:=T8b) (b:=b) (o:=0) (c:=16) (U:=TD) (cells:=w16 W) (s:=tx W) (by kernel_rfl) (by kernel_rfl) (by kernel_rfl) (tx_cells b)
 rw[tx_len]at h
 exact h
theorem e_of3 (W W':DG):Pure PP 93 [ni ((3:Nat):Int),.sl [[sV (tx W)],[sV (tx W')]]] (.ag (w16 (dgW 3 [tx W,tx W']))):=by
 have hi:=inU_2 3 (tx W) (tx W')
 rw[tx_len,tx_len]at hi
 exact Hs.e_of 3 [tx W,tx W'] (by omega) (by simp) (fun p hp=>by
  simp only[List.mem_cons,List.not_mem_nil,or_false]at hp
  rcases hp with rfl|rfl<;>rw[tx_len]<;>omega) (by omega)
theorem e_sum1 (h:Sq q) (W:DG):PureT PP 91 [.bx TD (w16 W)] [.ag (dQ q),.lp 0 0] (.io 1 [.bx TD (w16 (nxD W q))] (.tu [])):=by
 have d:=e_dig h
 have o:=e_of3 W (dgC q)
 have s1:=d_st W 0
 have s2:=d_st (dgC q) 2
 unfold nxD
 generalize tx W=A at*
 generalize tx (dgC q)=B at*
 generalize dgC q=C at*
 generalize dgW 3 [A,B]=D at*
 exact trT [cl d,.ext (some 6) _ _ _ _ _ (d_sl 0),.ext (some 7) _ _ _ _ _ s1,.ext (some 8) _ _ _ _ _ (d_sl 2),.ext (some 9) _ _ _ _ _ s2,.ro,cl o] (by kernel_rfl)
noncomputable abbrev fSm:Func:=fnOf PP 58
noncomputable def smX (L:List CQ) (k:Nat) (W:DG):St:=at_ fSm [(2,.lp 0 0),(3,.lp 1 0),(4,.cl 91 [.lp 1 0]),(8,slQ L),(9,ni L.length),(10,ni k)] [.bx TD (w16 zD),.bx TD (w16 W)]
theorem e_sumA (hL:∀ q∈L,Sq q) (hn:L.length≤100000):Pure PP 58 [slQ L] (.ag (w16 (sumW L))):=by
 have ml:ni ((L.map dQ).length:Int)=ni (L.length:Int):=by rw[List.length_map]
 refine pf (by kernel_rfl) (.to mo_ [] [2,3,4,8,9,10] [0,1] 2 [.eqv 9 _ _ ml] (td':=lp fSm 0) (σ':=smX L 0 zD) ?_ (by kernel_rfl))
 refine Gd.loop (fun x:Nat×DG=>smX L x.1 x.2) (fun x=>x.1≤L.length∧x.2=sumW (L.take x.1)) (fun x=>L.length - x.1) ?_ (0,zD) ⟨Nat.zero_le _,rfl⟩
 rintro ⟨k,W⟩ ⟨hk,hW⟩ ih
 simp only at hk hW ih
 by_cases h:k<L.length
 · have lt:decide ((k:Int)<(L.length:Int))=true:=decide_eq_true (by omega)
   obtain⟨q,hq⟩:∃ q,L[k]? =some q:=⟨_,List.getElem?_eq_getElem h⟩
   have s1:=dQ_at hq
   have c:=e_sum1 (hL q (List.mem_of_getElem? hq)) W
   have nx:=ih (k+1,nxD W q) ⟨h,by simp only;rw[sumW_next hq,hW]⟩ (by simp only;omega)
   unfold smX at nx⊢
   unfold slQ at*
   exact .to mo_ [] [2,3,4,8,9,10] [0,1] 2 [ye lt,.sel _ _ _ s1,.lend _ _ _ _ [1] c,inc 17 k (by omega)] nx (by kernel_rfl)
 · have lt:decide ((k:Int)<(L.length:Int))=false:=decide_eq_false (by omega)
   have hk2:k=L.length:=by omega
   subst hk2
   rw[List.take_length]at hW
   subst hW
   exact fi [na lt] (by kernel_rfl) (by kernel_rfl)
end
end Go.Proofs.YtfdfbenejkmnlaaGreatDoor.E.Ca
namespace Go.Proofs.YtfdfbenejkmnlaaGreatDoor.E.Ca
open Go.RowKit Hs
set_option linter.unusedVariables false
set_option linter.unusedSimpArgs false
section
variable {L M C A:List CQ} {p:Int×Int} {q r c:CQ} {b:Int} {i j k n:Nat} {cs:List Int} {t:Int}
/-- An archive is not nil. -/
noncomputable def pnA (t b:Nat):F_:= .ext (some t) (mkEq .eql TPA TPA) [.lp b 0,.k (.pointer none)] [] [] (.k (.bool false)) (x_pn (e:=TArc) (by kernel_rfl) (by kernel_rfl) b 0)
noncomputable abbrev fCh:Func:=fnOf PP 32
noncomputable def cX (cs:List Int) (M:List CQ) (b:Int) (n:Nat) (A:List CQ) (k:Nat):St:=at_ fCh [(0,.lp 2 0),(1,ni b),(7,.ow 3),(9,ni n),(10,ni k)] [.rw TI 1 (zs cs),.mp (mpL M),.bx TArc [.ow 0,.nm 1],.rw TCl 35 (A.map dQ)]
abbrev hB_ (cs:List Int) (M A:List CQ):List HO:=[.rw TI 1 (zs cs),.mp (mpL M),.bx TArc [.ow 0,.nm 1],.rw TCl 35 (A.map dQ)]
theorem e_chain (hC:∀ (k:Nat) (q:CQ),C[k]? =some q→fnd M (b,(k:Int))=some q) (hn:C.length≤1000):PureT PP 32 (hA_ cs M) [.lp 2 0,ni b,ni (C.length:Int)] (.io 3 (hB_ cs M C) (.ow 3)):=by
 refine pfT (by kernel_rfl) (.to mo_ [.ow 7 (.rw TCl 35 [])] [0,1,7,9,10] [0,1,2,3] 4 [] (td':=lp fCh 0) (σ':=cX cs M b C.length (C.take 0) 0) ?_ (by kernel_rfl))
 refine Gd.loop (fun k=>cX cs M b C.length (C.take k) k) (fun k=>k≤C.length) (fun k=>C.length - k) ?_ 0 (Nat.zero_le _)
 intro k hk ih
 by_cases h:k<C.length
 · have lt:decide ((k:Int)<(C.length:Int))=true:=decide_eq_true (by omega)
   obtain⟨q,hq⟩:∃ q,C[k]? =some q:=⟨_,List.getElem?_eq_getElem h⟩
   have l1:=lk1 (ok:=false) (b:=1) (hC k q hq)
   have nx:=ih (k+1) h (by omega)
   have ap:(C.take k).map dQ++[dQ q]=(C.take (k+1)).map dQ:=by rw[List.take_add_one,hq,List.map_append];rfl
   have al:((C.take (k+1)).map dQ).length≤2000:=by rw[List.length_map,List.length_take];omega
   unfold cX at nx⊢
   generalize mpL M=MM at*
   generalize (C.take k).map dQ=R at*
   generalize (C.take (k+1)).map dQ=R2 at*
   exact .to mo_ [.mv 3 5] [0,1,7,9,10] [0,1,2,3] 4 [ye lt,nk 15 2,.ext (some 21) _ _ _ _ _ l1,.app _ _ _ 2000 ap (Nat.zero_lt_succ _) al,inc 24 k (by omega)] nx (by kernel_rfl)
 · have lt:decide ((k:Int)<(C.length:Int))=false:=decide_eq_false (by omega)
   rw[List.take_of_length_le (by omega)]
   unfold cX hB_
   generalize mpL M=MM at*
   exact fi [na lt] (by kernel_rfl) (by kernel_rfl)
theorem mx_ (x y:Int):ni (if y>x then y else x)=ni (max x y):=by
 congr 1
 rw[Int.max_def]
 split<;>split<;>omega
/-- The clock so far. -/
def clkP (L:List CQ):Nat→Int
 |0=>0
 |k+1=>match (chn L (k:Int)).getLast? with
   |some q=>max (clkP L k) q.tick
   |none=>clkP L k
noncomputable abbrev fCk:Func:=fnOf PP 52
noncomputable def kX (n:Nat) (L:List CQ) (t:Int) (k:Nat):St:=at_ fCk [(0,.lp 2 0),(3,ni t),(11,.ow 0),(12,ni n),(13,ni k)] (hA_ (cnts n L) L)
theorem e_clock (ha:Arc n L):PureT PP 52 (hA_ (cnts n L) L) [.lp 2 0] (.io 3 (hA_ (cnts n L) L) (ni (clkP L n))):=by
 have n1:=ha.n1
 have ln:ni ((zs (cnts n L)).length:Int)=ni (n:Int):=by unfold zs;rw[List.length_map,cnts_len]
 refine pfT (by kernel_rfl) (.to mo_ [] [0,3,11,12,13] [0,1,2] 3 [pnA 7 2,nf,nk 9 2,.eqv 12 _ _ ln] (td':=lp fCk 0) (σ':=kX n L (clkP L 0) 0) ?_ (by kernel_rfl))
 refine Gd.loop (fun k=>kX n L (clkP L k) k) (fun k=>k≤n) (fun k=>n - k) ?_ 0 (Nat.zero_le _)
 intro k hk ih
 by_cases h:k<n
 · have lt:decide ((k:Int)<(n:Int))=true:=decide_eq_true (by omega)
   have s1:=cnts_at (L:=L) h
   have nx:=ih (k+1) h (by omega)
   have cl_:=chn_le L (k:Int)
   have len:=ha.len
   cases hg:(chn L (k:Int)).getLast? with
   |none=>
    have h0:chn L (k:Int)=[]:=List.getLast?_eq_none_iff.1 hg
    have e:clkP L (k+1)=clkP L k:=by rw[clkP,hg]
    rw[e]at nx
    rw[h0]at s1
    unfold kX hA_ at nx⊢
    generalize mpL L=M at*
    generalize zs (cnts n L)=Z at*
    generalize clkP L k=t at*
    exact .to mo_ [] [0,3,11,12,13] [0,1,2] 3 [ye lt,.sel _ _ _ s1,.sel _ _ _ s1,nf,inc 32 k (by omega)] nx (by kernel_rfl)
   |some q=>
    have e:clkP L (k+1)=max (clkP L k) q.tick:=by rw[clkP,hg]
    rw[e]at nx
    have hl:0<(chn L (k:Int)).length:=by
     rcases Nat.eq_zero_or_pos (chn L (k:Int)).length with h0|h0
     · rw[List.length_eq_zero_iff.1 h0]at hg;cases hg
     · exact h0
    have hq:(chn L (k:Int))[(chn L (k:Int)).length - 1]? =some q:=by rw[←List.getLast?_eq_getElem?];exact hg
    have l1:=lk1 (ok:=false) (b:=1) (fnd_chn ha hq)
    have gt:decide (((chn L (k:Int)).length:Int)>0)=true:=decide_eq_true (by omega)
    generalize (chn L (k:Int)).length=m at*
    unfold kX hA_ at nx⊢
    generalize mpL L=M at*
    generalize zs (cnts n L)=Z at*
    generalize clkP L k=t at*
    exact .to mo_ [] [0,3,11,12,13] [0,1,2] 3 [ye lt,.sel _ _ _ s1,.sel _ _ _ s1,ye gt,nk 22 2,wq 27 ((m:Int) - 1) ((m - 1:Nat):Int) (by omega),.ext (some 29) _ _ _ _ _ l1,.eqv 31 _ _ (mx_ t q.tick),inc 32 k (by omega)] nx (by kernel_rfl)
 · have lt:decide ((k:Int)<(n:Int))=false:=decide_eq_false (by omega)
   have:k=n:=by omega
   subst this
   unfold kX hA_
   generalize mpL L=M at*
   exact fi [na lt] (by kernel_rfl) (by kernel_rfl)
/-- A head's cells. -/
noncomputable def hdV (x:Int×DG):List V:=ni x.1::w16 x.2
noncomputable def hdsL (n:Nat) (L:List CQ):List (Int×DG):=(List.range n).map fun(k:Nat)=>(((chn L (k:Int)).length:Int),sumW (chn L (k:Int)))
abbrev THd:Nat:= 105
noncomputable abbrev fHd:Func:=fnOf PP 21
abbrev hC_ (cs:List Int) (M:List CQ) (R:List (List V)):List HO:=[.rw TI 1 (zs cs),.mp (mpL M),.bx TArc [.ow 0,.nm 1],.rw THd 17 R]
noncomputable def hX (n:Nat) (L:List CQ) (k:Nat):St:=at_ fHd [(0,.lp 2 0),(3,.ow 3),(11,.ow 0),(12,ni n),(13,ni k)] (hC_ (cnts n L) L ((hdsL k L).map hdV))
theorem chn_sq (ha:Arc n L):∀ q∈chn L b,Sq q:=fun q hq=>ha.sq q (chn_mem.1 hq).1
theorem hd_go {D:List HO×V} (ha:Arc n L) (fin:Gd PP 21 (.io 3 D.1 D.2) (lp fHd 0) (hX n L n)):PureT PP 21 (hA_ (cnts n L) L) [.lp 2 0] (.io 3 D.1 D.2):=by
 have n1:=ha.n1
 have ln:ni ((zs (cnts n L)).length:Int)=ni (n:Int):=by unfold zs;rw[List.length_map,cnts_len]
 refine pfT (by kernel_rfl) (.to mo_ [.ow 3 (.rw THd 17 [])] [0,3,11,12,13] [0,1,2,3] 4 [pnA 7 2,nf,nk 9 2,.eqv 12 _ _ ln] (td':=lp fHd 0) (σ':=hX n L 0) ?_ (by kernel_rfl))
 refine Gd.loop (fun k=>hX n L k) (fun k=>k≤n) (fun k=>n - k) ?_ 0 (Nat.zero_le _)
 intro k hk ih
 by_cases h:k<n
 · have lt:decide ((k:Int)<(n:Int))=true:=decide_eq_true (by omega)
   have s1:=cnts_at (L:=L) h
   have nx:=ih (k+1) h (by omega)
   have cl_:=chn_le L (k:Int)
   have len:=ha.len
   have ch:=e_chain (cs:=cnts n L) (M:=L) (b:=(k:Int)) (C:=chn L (k:Int)) (fun j q hq=>fnd_chn ha hq) (by omega)
   have sm:=e_sumA (L:=chn L (k:Int)) (chn_sq ha) (by omega)
   have ap:(hdsL k L).map hdV++[hdV (((chn L (k:Int)).length:Int),sumW (chn L (k:Int)))]=(hdsL (k+1) L).map hdV:=by
    unfold hdsL
    rw[List.range_succ,List.map_append,List.map_append]
    rfl
   have al:((hdsL (k+1) L).map hdV).length≤2000:=by unfold hdsL;rw[List.length_map,List.length_map,List.length_range];omega
   unfold hdV at ap al
   unfold hX hC_ at nx⊢
   unfold hA_ hB_ at ch
   unfold slQ at sm
   generalize sumW (chn L (k:Int))=W at*
   generalize (chn L (k:Int)).map dQ=CC at*
   generalize (chn L (k:Int)).length=m at*
   generalize mpL L=M at*
   generalize zs (cnts n L)=Z at*
   generalize List.map (fun x:Int×DG=>ni x.1::w16 x.2) (hdsL k L)=R at*
   generalize List.map (fun x:Int×DG=>ni x.1::w16 x.2) (hdsL (k+1) L)=R2 at*
   exact .to mo_ [.mv 3 6] [0,3,11,12,13] [0,1,2,3] 4 [ye lt,.sel _ _ _ s1,.sel _ _ _ s1,.lend _ _ _ _ [0,1,2] ch,cl sm,.app _ _ _ 2000 ap (Nat.zero_lt_succ _) al,inc 28 k (by omega)] nx (by kernel_rfl)
 · have:k=n:=by omega
   subst this
   exact fin
theorem e_heads (ha:Arc n L):PureT PP 21 (hA_ (cnts n L) L) [.lp 2 0] (.io 3 (hC_ (cnts n L) L ((hdsL n L).map hdV)) (.ow 3)):=by
 refine hd_go (D:=(hC_ (cnts n L) L ((hdsL n L).map hdV),.ow 3)) ha ?_
 have lt:decide ((n:Int)<(n:Int))=false:=decide_eq_false (by omega)
 unfold hX hC_
 generalize mpL L=M at*
 exact fi [na lt] (by kernel_rfl) (by kernel_rfl)
/-- The heads as what is only read. -/
theorem e_headsZ (ha:Arc n L):PureT PP 21 (hA_ (cnts n L) L) [.lp 2 0] (.io 3 (hA_ (cnts n L) L) (.sl ((hdsL n L).map hdV))):=by
 refine hd_go (D:=(hA_ (cnts n L) L,.sl ((hdsL n L).map hdV))) ha ?_
 have lt:decide ((n:Int)<(n:Int))=false:=decide_eq_false (by omega)
 unfold hX hC_ hA_
 generalize mpL L=M at*
 exact fiG [.fz 2] [na lt] (by kernel_rfl) (by kernel_rfl)
end
end Go.Proofs.YtfdfbenejkmnlaaGreatDoor.E.Ca
namespace Go.Proofs.YtfdfbenejkmnlaaGreatDoor.E.Ca
open Go.RowKit Hs
set_option linter.unusedVariables false
set_option linter.unusedSimpArgs false
section
variable {L M C A l:List CQ} {p:Int×Int} {q r c o:CQ} {b:Int} {i j k n:Nat} {cs:List Int} {t:Int}
theorem zs_cnts:((zs (cnts n L)).length:Int)=(n:Int):=by unfold zs;rw[List.length_map,cnts_len]
open Classical in
theorem e_take (ha : Arc n L) (hc : Sq c) (hf : FBits 100 c.cm.fit) : PT (cnts n L) L c (aD (cnts n (tkL n L c)) (tkL n L c) (tkF n L c) (tkE n L c)) := by
 have hv:=e_cvalid (k:=100) (c:=c.cm) hf (by omega)
 have zc:=zs_cnts (n:=n) (L:=L)
 have same:∀ {e:Int},tkE n L c=e→e≠0→PT (cnts n L) L c (aD (cnts n L) L false e)→PT (cnts n L) L c (aD (cnts n (tkL n L c)) (tkL n L c) (tkF n L c) (tkE n L c)):=fun{e} h1 h2 h3=>by
  have f:tkF n L c=false:=by unfold tkF;rw[decide_eq_false (by rw[h1];exact h2)];rfl
  have g:tkL n L c=L:=by unfold tkL;rw[f];rfl
  rw[f,g,h1]
  exact h3
 by_cases h0:validI c.cm≠0
 · refine same (e:=validI c.cm) (by unfold tkE;rw[if_pos h0]) h0 (tk_inv hv ?_)
   simpa using h0
 have h0:=Decidable.not_not.1 h0
 have v:=va_0 h0
 have v1:0≤c.by_∧0≤c.seq∧c.seq<200:=⟨v.2.1,v.2.2.2.1,v.2.2.2.2.1⟩
 rw[h0]at hv
 by_cases h1:(n:Int)≤c.by_
 · exact same (e:=1) (by unfold tkE;rw[if_neg (by simp[h0]),if_pos h1]) (by decide) (tk_by hv (decide_eq_true (by rw[zc];exact h1)))
 have h1':decide (c.by_≥((zs (cnts n L)).length:Int))=false:=decide_eq_false (by rw[zc];exact h1)
 cases hfnd:fnd L c.cm.nm with
 |some o=>
  by_cases e:o=c
  · have e0:tkE n L c=0:=by unfold tkE;rw[if_neg (by simp[h0]),if_neg h1,hfnd];exact if_pos e
    have f:tkF n L c=false:=by unfold tkF;rw[hfnd];simp
    have g:tkL n L c=L:=by unfold tkL;rw[f];rfl
    rw[f,g,e0]
    exact tk_had hv h1' hfnd e
  · exact same (e:=7) (by unfold tkE;rw[if_neg (by simp[h0]),if_neg h1,hfnd];exact if_neg e) (by decide) (tk_two hv h1' hfnd e)
 | none =>
  obtain⟨k,hb⟩:∃ k:Nat,c.by_=(k:Int):=⟨c.by_.toNat,by omega⟩
  have hkn:k<n:=by omega
  have hk:=cnts_at (L:=L) hkn
  have hm:(chn L (k:Int)).length≤200:=Nat.le_trans (chn_le L _) ha.len
  have hn:c.refs.length≤1000:=by have:=v.1;exact Nat.le_trans this (by decide)
  have ev:∀ {x:Int},(if c.seq≠((chn L c.by_).length:Int)∨c.refs.any (unkB L)=true then 10 else if c.refs.any (lateB L c)=true∨(0<c.seq∧lateB L c (c.by_,c.seq - 1)=true)then 5 else if 200≤L.length then 4 else 0)=x→tkE n L c=x:=fun{x} h=>by unfold tkE;rw[if_neg (by simp[h0]),if_neg h1,hfnd];exact h
  rw[hb]at ev
  by_cases hs:c.seq≠((chn L (k:Int)).length:Int)
  · have e:=ev (if_pos (.inl hs))
    exact same e (by decide) (tk_new hv h1' hfnd (D:=(hA_ (cnts n L) L,.tu [bo false,ni 10])) (tn_seq hb hk (by simpa using hs)))
  have hs:=Decidable.not_not.1 hs
  have hs2:(c.seq != ((chn L (k:Int)).length:Int))=false:=by rw[hs];simp
  cases hu:c.refs.any (unkB L)with
  |true=>
   have e:=ev (if_pos (.inr hu))
   exact same e (by decide) (tk_new hv h1' hfnd (D:=(hA_ (cnts n L) L,.tu [bo false,ni 10])) (tn_unk hn hb hk hs2 hu))
  |false=>
   have n10:¬(c.seq≠((chn L (k:Int)).length:Int)∨c.refs.any (unkB L)=true):=fun h=>h.elim (fun h=>h hs) fun h=>by rw[hu]at h;cases h
   cases hl:c.refs.any (lateB L c)with
   |true=>
    have e:=ev ((if_neg n10).trans (if_pos (.inl hl)))
    exact same e (by decide) (tk_new hv h1' hfnd (D:=(hA_ (cnts n L) L,.tu [bo false,ni 5])) (tn_late1 hn hb hk hs2 hu hl))
   |false=>
    by_cases hp:0<c.seq∧lateB L c (c.by_,c.seq - 1)=true
    · have e:=ev ((if_neg n10).trans (if_pos (.inr (by rw[←hb];exact hp))))
      exact same e (by decide) (tk_new hv h1' hfnd (D:=(hA_ (cnts n L) L,.tu [bo false,ni 5])) (tn_late2 hn hb hk hs2 hu hl (decide_eq_true hp.1) (by omega) hp.2))
    · have hp2:0<c.seq→lateB L c (c.by_,c.seq - 1)=false:=fun h=>by
       cases g:lateB L c (c.by_,c.seq - 1)with
       |false=>rfl
       |true=>exact absurd ⟨h,g⟩ hp
      have n5:¬(c.refs.any (lateB L c)=true∨(0<c.seq∧lateB L c ((k:Int),c.seq - 1)=true)):=fun h=>h.elim (fun h=>by rw[hl]at h;cases h) fun h=>hp (by rw[hb];exact h)
      by_cases hL:200≤L.length
      · have e:=ev ((if_neg n10).trans ((if_neg n5).trans (if_pos hL)))
        exact same e (by decide) (tk_new hv h1' hfnd (D:=(hA_ (cnts n L) L,.tu [bo false,ni 4])) (tn_on hn hb hk hs2 hu hl (by omega) hp2 (D:=(hA_ (cnts n L) L,.tu [bo false,ni 4])) (tn_full (decide_eq_true (by omega)))))
      · have e:=ev ((if_neg n10).trans ((if_neg n5).trans (if_neg hL)))
        have f:tkF n L c=true:=by unfold tkF;rw[e,hfnd];rfl
        have g:tkL n L c=L++[c]:=by unfold tkL;rw[f];rfl
        have k0:(zs (cnts n L)).set k [ni (((chn L (k:Int)).length+1:Nat):Int)]=zs (cnts n (L++[c])):=by
         rw[←cnts_add hb hkn]
         unfold zs
         rw[List.map_set]
        rw[f,g,e]
        exact tk_new hv h1' hfnd (D:=(hA_ (cnts n (L++[c])) (L++[c]),.tu [bo true,ni 0])) (tn_on hn hb hk hs2 hu hl (by omega) hp2 (D:=(hA_ (cnts n (L++[c])) (L++[c]),.tu [bo true,ni 0])) (tn_ok hn (decide_eq_false (by omega)) hb hk (by omega) hfnd k0))
/-- Take of a list: what is there then, how many are new, the error. -/
noncomputable def takL (n:Nat):List CQ→List CQ→Int→List CQ×Int×Int
 |L,[],m=>(L,m,0)
 |L,c::r,m=>if tkE n L c=0 then takL n (tkL n L c) r (if tkF n L c then m+1 else m)else(L,m,tkE n L c)
noncomputable abbrev fTL:Func:=fnOf PP 22
noncomputable def tlX (n:Nat) (l L:List CQ) (m:Int) (k:Nat):St:=at_ fTL [(0,.lp 2 0),(6,ni m),(13,slQ l),(14,ni l.length),(15,ni k)] (hA_ (cnts n L) L)
theorem tkL_e (h:tkE n L c≠0):tkL n L c=L∧tkF n L c=false:=by
 have f:tkF n L c=false:=by unfold tkF;rw[decide_eq_false h];rfl
 exact⟨by unfold tkL;rw[f];rfl,f⟩
theorem e_takeL (ha:Arc n L) (hc:∀ c∈l,Sq c∧FBits 100 c.cm.fit) (hl:l.length≤100000):PureT PP 22 (hA_ (cnts n L) L) [.lp 2 0,slQ l] (.io 3 (hA_ (cnts n (takL n L l 0).1) (takL n L l 0).1) (.tu [ni (takL n L l 0).2.1,ni (takL n L l 0).2.2])):=by
 have ln:ni ((l.map dQ).length:Int)=ni (l.length:Int):=by rw[List.length_map]
 refine pfT (by kernel_rfl) (.to mo_ [] [0,6,13,14,15] [0,1,2] 3 [pnA 12 2,nf,.eqv 14 _ _ ln] (td':=lp fTL 0) (σ':=tlX n l L 0 0) ?_ (by kernel_rfl))
 generalize hR:takL n L l 0=R
 obtain⟨L',m',e'⟩:=R
 simp only
 have main : ∀ d k, k + d = l.length → ∀ (L : List CQ) (m : Int), Arc n L → 0 ≤ m ∧ m ≤ k → takL n L (l.drop k) m = (L', m', e') → Gd PP 22 (.io 3 (hA_ (cnts n L') L') (.tu [ni m', ni e'])) (lp fTL 0) (tlX n l L m k) := by
  intro d k hd L m ha hm hR
  refine Gd.loop (fun x:Nat×List CQ×Int=>tlX n l x.2.1 x.2.2 x.1) (fun x=>x.1≤l.length∧Arc n x.2.1∧(0≤x.2.2∧x.2.2≤x.1)∧takL n x.2.1 (l.drop x.1) x.2.2=(L',m',e')) (fun x=>l.length - x.1) ?_ (k,L,m) ⟨by omega,ha,hm,hR⟩
  rintro ⟨k,L,m⟩ ⟨hk,ha,hm,hR⟩ ih
  simp only at hk ha hm hR ih
  by_cases h:k<l.length
  · have lt:decide ((k:Int)<(l.length:Int))=true:=decide_eq_true (by omega)
    obtain⟨q,hq⟩:∃ q,l[k]? =some q:=⟨_,List.getElem?_eq_getElem h⟩
    have s1:=dQ_at hq
    obtain⟨h1,h2⟩:=hc q (List.mem_of_getElem? hq)
    have tk:=e_take ha h1 h2
    have dr:l.drop k=q::l.drop (k+1):=by
     obtain⟨l1,g1⟩:=List.getElem?_eq_some_iff.1 hq
     rw[List.drop_eq_getElem_cons l1,g1]
    rw[dr,takL]at hR
    have ha2:=tkL_arc ha h1 h2
    by_cases e0:tkE n L q=0
    · rw[if_pos e0]at hR
      rw[e0]at tk
      cases hf:tkF n L q with
      |true=>
       rw[hf]at hR tk
       have nx:=ih (k+1,tkL n L q,m+1) ⟨h,ha2,by simp only;omega,by simpa using hR⟩ (by simp only;omega)
       generalize tkL n L q=L2 at*
       unfold PT aD at tk
       unfold tlX slQ at*
       unfold hA_ at*
       generalize mpL L=M1 at*
       generalize mpL L2=M2 at*
       exact .to mo_ [] [0,6,13,14,15] [0,1,2] 3 [ye lt,.sel _ _ _ s1,.lend _ _ _ _ [0,1,2] tk,nf,yt,wq 31 (m+1) (m+1) (by omega),inc 32 k (by omega)] nx (by kernel_rfl)
      |false=>
       rw[hf]at hR tk
       have nx:=ih (k+1,tkL n L q,m) ⟨h,ha2,by simp only;omega,by simpa using hR⟩ (by simp only;omega)
       generalize tkL n L q=L2 at*
       unfold PT aD at tk
       unfold tlX slQ at*
       unfold hA_ at*
       generalize mpL L=M1 at*
       generalize mpL L2=M2 at*
       exact .to mo_ [] [0,6,13,14,15] [0,1,2] 3 [ye lt,.sel _ _ _ s1,.lend _ _ _ _ [0,1,2] tk,nf,nf,inc 32 k (by omega)] nx (by kernel_rfl)
    · rw[if_neg e0]at hR
      obtain⟨g1,g2⟩:=tkL_e e0
      rw[g1,g2]at tk
      injection hR with hR1 hR
      injection hR with hR2 hR3
      subst hR1;subst hR2;subst hR3
      have ne:(tkE n L q != 0)=true:=by simpa using e0
      generalize tkE n L q=e at*
      unfold PT aD at tk
      unfold tlX slQ at*
      unfold hA_ at*
      generalize mpL L=M1 at*
      exact fi [ye lt,.sel _ _ _ s1,.lend _ _ _ _ [0,1,2] tk,ye ne] (by kernel_rfl) (by kernel_rfl)
  · have lt:decide ((k:Int)<(l.length:Int))=false:=decide_eq_false (by omega)
    rw[List.drop_eq_nil_of_le (by omega),takL]at hR
    injection hR with hR1 hR
    injection hR with hR2 hR3
    subst hR1;subst hR2;subst hR3
    unfold tlX slQ
    unfold hA_
    generalize mpL L=M1 at*
    exact fi [na lt] (by kernel_rfl) (by kernel_rfl)
 exact main l.length 0 (by omega) L 0 ha (by omega) (by rw[List.drop_zero];exact hR)
end
end Go.Proofs.YtfdfbenejkmnlaaGreatDoor.E.Ca
namespace Go.Proofs.YtfdfbenejkmnlaaGreatDoor.E
open Go.RowKit
set_option linter.unusedVariables false
set_option linter.unusedSimpArgs false
theorem renV_id:∀ (n:Nat) (x:V),renV (fun j=>j) n x=x
 |0,x=>rfl
 |n+1,x=>by
  have hm:∀ l:List V,l.map (renV (fun j=>j) n)=l:=fun l=>by
   rw[show renV (fun j=>j) n=id from funext fun y=>renV_id n y,List.map_id]
  cases x<;>simp only[renV,hm]
theorem renH_id (x:HO):renH (fun j=>j) x=x:=by
 cases x<;>simp only[renH]
 rename_i l
 rw[show renV (fun j=>j) 5=id from funext fun y=>renV_id 5 y,List.map_id]
def mkC1 (ts:Array TypeId) (xs:List Operand):Op:= .call ⟨.value (xs.getD 0 (.tmp 0)), #[xs.getD 1 (.tmp 0)],ts⟩
def lrd:List HO→Nat→List (Nat×HO)
 |[],_=>[]
 |x::r,i=>(i,x)::lrd r (i+1)
theorem lrd_mem:∀ {l:List HO} {i j:Nat},j<l.length→(i+j,l.getD j .dead)∈lrd l i
 |[],_,_,h=>by simp at h
 |x::r,i,0,_=>List.mem_cons_self ..
 |x::r,i,j+1,h=>by
  refine List.mem_cons_of_mem _ ?_
  have:=lrd_mem (l:=r) (i:=i+1) (j:=j) (by simpa using h)
  rw[show i+1+j=i+(j+1)by omega]at this
  exact this
def lendC (hs hs1:List HO) (ds:List V) (d:V):Bool:=(hs.all HO.own&&hs.all (okH fun b=>Nat.blt b hs.length))&&(ds.all (okV (fun b=>Nat.blt b hs.length) 5)&&(hs1.all (okH fun b=>Nat.blt b hs1.length)&&okV (fun b=>Nat.blt b hs1.length) 5 d))
/-- A call to which objects are lent; those that it turns are told. -/
theorem x_lend {P:Program} {f:FuncId} {ts:Array TypeId} {hs hs1:List HO} {a1:V} {caps:List V} {d:V} {ws:List (Nat×HO)} (hp:PureT P f hs (a1::caps) (.io hs.length hs1 d)) (hl:hs1.length=hs.length) (hc:lendC hs hs1 (a1::caps) d=true)
 (hw:∀ h:Nat→HO,(∀ j,j<hs.length→h j=hs.getD j .dead)→upds h ws=upds h (lws (fun j=>j) hs1)):Ext P (mkC1 ts) [.cl f caps,a1] (lrd hs 0) ws d:=by
 intro B M h m w a o xs ho K hxl hr hrd _
 obtain⟨x0,x1,rfl⟩:=two_of hxl
 have r0:=hr 0 x0 _ rfl rfl
 have r1:=hr 1 x1 _ rfl rfl
 simp only[mkC1,List.getD_cons_zero,List.getD_cons_succ]at ho
 obtain⟨cs,hce,hcs,hcr⟩:∃ cs:Array Value,a.eval x0= .func (.func f) #[] cs∧cs.size=caps.length∧∀ j x,caps[j]? =some x→Rep w (Av M h m) m (cs.getD j undef) x:=by
  generalize a.eval x0=u at r0
  cases r0 with
  |cl _ _ cs _ h1 h2=>exact⟨cs,rfl,h1,h2⟩
 unfold lendC at hc
 simp only[Bool.and_eq_true,List.all_eq_true]at hc
 obtain⟨⟨c6,c7⟩,c8,c9,c10⟩:=hc
 have hh:∀ j,j<hs.length→h j=hs.getD j .dead:=fun j hj=>by
  have:=hrd _ (lrd_mem (i:=0) hj)
  simpa using this
 have hget:∀ j,j<hs.length→hs.getD j .dead∈hs:=fun j hj=>by
  rw[List.getD_eq_getElem?_getD,List.getElem?_eq_getElem hj]
  exact List.getElem_mem hj
 have L:Lend B M h m w (fun j=>j) hs.length hs:=⟨K,rfl,fun j hj=>by rw[renH_id];exact hh j hj,fun j hj=>c6 _ (hget j hj),fun j hj=>c7 _ (hget j hj),fun i j _ _ e=>e⟩
 have hmo:Mo w (Av M h m) no w (Av (Av M (rest h (fun j=>j) hs.length) m) (fun b=>hs.getD b .dead) (mLent m (fun j=>j) hs.length)) no:=⟨Nat.le_refl _,fun _ _ _=>rfl,fun g e=> .inl (L.av e),fun _ _ e=>e⟩
 have hlent:∀ b,Nat.blt b hs.length=true→mLent m (fun j=>j) hs.length b=m b:=fun b hb=>if_pos (by simpa using hb)
 have down:∀ y u,okV (fun b=>Nat.blt b hs.length) 5 y=true→Rep w (Av M h m) m u y→Rep w (Av (Av M (rest h (fun j=>j) hs.length) m) (fun b=>hs.getD b .dead) (mLent m (fun j=>j) hs.length)) (mLent m (fun j=>j) hs.length) u y:=fun y u hy hu=>by
  refine ren_down (r:=fun j=>j) (p:=fun b=>Nat.blt b hs.length) hlent hmo 5 y u hy ?_
  rw[renV_id]
  exact hu
 have hargs:Reps w (Av (Av M (rest h (fun j=>j) hs.length) m) (fun b=>hs.getD b .dead) (mLent m (fun j=>j) hs.length)) (mLent m (fun j=>j) hs.length) (#[a.eval x1]++cs) (a1::caps):=by
  refine⟨by simp[hcs];omega,fun j y hy=> ?_,K.gl.mo hmo⟩
  have hy8:=c8 y (List.mem_of_getElem? hy)
  refine down y _ hy8 ?_
  cases j with
  |zero=>
   simp only[List.getElem?_cons_zero,Option.some.injEq]at hy
   subst hy
   rw[Array.getD_eq_getD_getElem?,Array.getElem?_append_left (by simp)]
   exact r1
  |succ j=>
   simp only[List.getElem?_cons_succ]at hy
   have:=hcr j y hy
   rw[Array.getD_eq_getD_getElem?,Array.getElem?_append_right (by simp)]
   simpa[Array.getD_eq_getD_getElem?]using this
 have hlive:∀ j,j<hs.length→m j≠none:=fun j hj=>by
  have hlv:=L.live hj
  cases hx:h j with
  |bx T l=>obtain⟨g,cs,q,_⟩:=K.bx _ T l hx;rw[q];intro e;cases e
  |rw T z l=>obtain⟨v,xs,q,_⟩:=K.rw _ T z l hx;rw[q];intro e;cases e
  |mp l=>obtain⟨g,q,_⟩:=K.mp _ l hx;rw[q];intro e;cases e
  |dead=>simp only[hx]at hlv;cases hlv
  |fz x=>simp only[hx]at hlv;cases hlv
 have hcall:=hp.2 w (NLent w m (fun j=>j) hs.length) (Av M (rest h (fun j=>j) hs.length) m) (mLent m (fun j=>j) hs.length) _ L.give (fun b hb=>by
  rcases Nat.lt_or_ge b hs.length with h1|h1
  · exact h1
  · exact absurd (if_neg (by omega)) hb) (fun b hb=>by
  have hb:b<hs.length:=hb
  show(if _ then _ else _)≠_
  rw[if_pos hb]
  exact hlive b hb) hargs
 refine .inr (.inr ⟨f, #[a.eval x1]++cs, ?_,hcall.mono fun e w' he=> ?_⟩)
 · have:=hp.1 (#[a.eval x1]++cs) w
   simp[execOp,ho,resolve,hce,Deferred.ofValue,invoke]at this⊢
   exact this
 · obtain⟨v,rfl,⟨h',m',K',q1,q2,q3⟩,hb⟩:=he
   obtain⟨m2,t1,t2,t3,t4,t5⟩:=L.take (n:=hs.length) (hs1:=hs1) (by omega) (fun j hj=>by omega) (fun j hj=>hj) (fun j hj=>by
     rw[List.getD_eq_getElem?_getD,List.getElem?_eq_getElem hj]
     exact c9 _ (List.getElem_mem hj)) (fun j hj hj2=>by omega) K' hb q1 q2
   rw[←hw h hh]at t1 t2 t4
   have t6:=t4 v d c10 q3
   rw[renV_id]at t6
   refine⟨v,rfl,m2,t1,t6,t2,t3,fun b hbn=>(t5 b hbn).elim .inl fun hm=> .inl ?_⟩
   unfold lws at hm
   rw[List.map_map,List.mem_map]at hm
   obtain⟨j,hj,rfl⟩:=hm
   exact hlive j (by have:=List.mem_range.1 hj;omega)
theorem upds_lws {h:Nat→HO} {hs:List HO} (hh:∀ j,j<hs.length→h j=hs.getD j .dead):upds h (lws (fun j=>j) hs)=h:=by
 funext b
 have key:∀ l:List Nat,(∀ j∈l,j<hs.length)→upds h (l.map fun j=>(j,renH (fun j=>j) (hs.getD j .dead))) b=h b:=fun l=>by
  induction l with
  |nil=>exact fun _=>rfl
  |cons x r ih=>
   intro hl
   rw[List.map_cons]
   show upd (upds h _) x _ b=h b
   by_cases e:b=x
   · subst e
     rw[upd_eq,renH_id]
     exact(hh b (hl b (List.mem_cons_self ..))).symm
   · rw[upd_ne e]
     exact ih fun j hj=>hl j (List.mem_cons_of_mem _ hj)
 exact key (List.range hs.length) fun j hj=>List.mem_range.1 hj
/-- A call to which objects are lent, and that leaves them as they were. -/
theorem x_lend0 {P:Program} {f:FuncId} {ts:Array TypeId} {hs:List HO} {a1:V} {caps:List V} {d:V} (hp:PureT P f hs (a1::caps) (.io hs.length hs d)) (hc:lendC hs hs (a1::caps) d=true):Ext P (mkC1 ts) [.cl f caps,a1] (lrd hs 0) [] d:=
 x_lend hp rfl hc fun h hh=>(upds_lws hh).symm
end Go.Proofs.YtfdfbenejkmnlaaGreatDoor.E
