/-
 CLAIMS: the law ClaimValid, by the engine.
-/
import Derived.Test.YtfdfbenejkmnlaaGreatDoorEtD
import Derived.Test.YtfdfbenejkmnlaaGreatDoorCaA
import Derived.Test.YtfdfbenejkmnlaaGreatDoorCdA
import Derived.Test.YtfdfbenejkmnlaaGreatDoorDrA
namespace Go.Proofs.YtfdfbenejkmnlaaGreatDoor.E
open Go.RowKit
set_option linter.unusedVariables false
set_option linter.unusedSimpArgs false
theorem e_growB {n:Nat} (h:0<n∧n≤100000):Pure PP 119 [.nl,ni n] (.o 5 1 []):=
 tr [na (t:=decide ((n:Int)<0)) (decide_eq_false (by omega)),.nil,.eqv 13 (ni (IntKind.i64.wrap (0 - 0))) (ni 0) rfl,wq 14 ((n:Int) - 0) (n:Int) (by omega),ye (t:=decide ((n:Int)>0)) (decide_eq_true (by omega)),.nil,.nil,.apz n (by omega),.trn (List.replicate n [.k (.int .u8 0)]) [] 0 rfl (Nat.zero_le _)] (by kernel_rfl)
noncomputable abbrev fcB:Func:=fnOf PP 76
def rowsB (ls:List (List UInt8)):List (List V):=ls.map fun b=>[.sl (byL b)]
theorem e_concatB {ls:List (List UInt8)} (h0:0<ls.flatten.length) (h1:ls.flatten.length≤100000) (hn:ls.length≤1000) (hp:∀ b∈ls,0<b.length):Pure PP 76 [.sl (rowsB ls)] (.o 5 1 (byL ls.flatten)):=by
 have hl:(rowsB ls).length=ls.length:=List.length_map ..
 have el:∀ {i},i<ls.length→(rowsB ls)[i]? =some [.sl (byL (ls.getD i []))]:=fun{i} h=>by
  unfold rowsB
  rw[List.getElem?_map,List.getD_eq_getElem?_getD,List.getElem?_eq_getElem h];rfl
 have hx:∀ {i},i<ls.length→ls[i]? =some (ls.getD i []):=fun{i} h=>by rw[List.getD_eq_getElem?_getD,List.getElem?_eq_getElem h];rfl
 let S:Nat→List UInt8:=fun i=>(ls.take i).flatten
 have hS:∀ {i},i<ls.length→S (i+1)=S i++ls.getD i []:=fun{i} h=>by simp only[S];rw[List.take_add_one,hx h];simp
 have hSl:∀ i,(S i).length≤ls.flatten.length:=fun i=>by
  have:ls.flatten=S i++(ls.drop i).flatten:=by simp only[S];rw[←List.flatten_append,List.take_append_drop]
  rw[this,List.length_append];omega
 have hSn:S ls.length=ls.flatten:=by simp[S]
 let X:Nat→St:=fun i=>at_ fcB [(0,.sl (rowsB ls)),(3,ni ((S i).length:Int)),(9,.sl (rowsB ls)),(10,ni ((rowsB ls).length:Int)),(11,ni i)] []
 let Y:Nat→St:=fun i=>at_ fcB [(6,.ow 0),(25,.sl (rowsB ls)),(26,ni ((rowsB ls).length:Int)),(27,ni i)] [.rw 5 1 (byL (S i))]
 refine pf (by kernel_rfl) (.to mo_ [] [0,3,9,10,11] [] 0 [] (td':=lp fcB 0) (σ':=X 0) ?_ (by kernel_rfl))
 refine Gd.loop X (fun i=>i≤ls.length) (fun i=>ls.length - i) ?_ 0 (Nat.zero_le _)
 intro i hi ih
 by_cases h:i<ls.length
 · have e:=el h
   have hs:=hS h
   have h2:=hSl (i+1)
   rw[hs,List.length_append]at h2
   exact .to mo_ [] [0,3,9,10,11] [] 0 [ye (t:=decide ((i:Int)<((rowsB ls).length:Int))) (decide_eq_true (by omega)),.sel _ _ _ e,.eqv 17 (ni ((byL (ls.getD i [])).length:Int)) (ni ((ls.getD i []).length:Int)) (by rw[byL_len]),wq 18 (((S i).length:Int)+((ls.getD i []).length:Int)) ((S (i+1)).length:Int) (by rw[hs,List.length_append];omega),na (t:=decide (((S (i+1)).length:Int)<0)) (decide_eq_false (by omega)),inc 22 i (by omega)] (ih (i+1) h (by omega)) (by kernel_rfl)
 · have hi2:i=ls.length:=by omega
   subst hi2
   refine .to mo_ [] [6,25,26,27] [0] 1 [na (t:=decide ((ls.length:Int)<((rowsB ls).length:Int))) (decide_eq_false (by omega)),.newr true false _ _ _ _ _ (e_growB (n:=(S ls.length).length) (by rw[hSn];exact⟨h0,h1⟩)) (fun cs h=>by cases h)] (td':=lp fcB 1) (σ':=Y 0) ?_ (by kernel_rfl)
   refine Gd.loop Y (fun i=>i≤ls.length) (fun i=>ls.length - i) ?_ 0 (Nat.zero_le _)
   intro i hi jh
   by_cases g:i<ls.length
   · have e:=el g
     have hs:=hS g
     have h2:=hSl (i+1)
     have h3:=hp (ls.getD i []) (List.mem_of_getElem? (hx g))
     exact .to mo_ [.mv 0 1] [6,25,26,27] [0] 1 [ye (t:=decide ((i:Int)<((rowsB ls).length:Int))) (decide_eq_true (by omega)),.sel _ _ _ e,.aps (byL (S i)) (byL (ls.getD i [])) (byL (S (i+1))) 100000 1 (by rw[byL_app,hs]) (by rw[byL_len];exact h3) (by rw[byL_len];omega) (byL_ok _),inc 34 i (by omega)] (jh (i+1) g (by omega)) (by kernel_rfl)
   · have hi3:i=ls.length:=by omega
     subst hi3
     rw[←hSn]
     exact fi [na (t:=decide ((ls.length:Int)<((rowsB ls).length:Int))) (decide_eq_false (by omega))] (by kernel_rfl) (by kernel_rfl)
section
variable {x y:Int} {k:Nat} {r:Rat}
def encQ (r:Rat):List UInt8:=encZ r.num++encZ (dq r)
/-- Few digits. -/
def Fq (r:Rat):Prop:=(digs r.num.natAbs).length≤4000∧(digs (dq r).natAbs).length≤4000
theorem encZ_len (x:Int):1≤(encZ x).length∧(encZ x).length≤18+9*(digs x.natAbs).length:=by
 unfold encZ
 have h1:=W.encI_le (znL x)
 have h2:=(W.enc_le ((znL x).length:Int)).1
 refine⟨by unfold W.encI;rw[List.length_append];omega, ?_⟩
 simp only[znL,List.length_cons]at h1⊢
 omega
theorem encQ_len (h:Fq r):2≤(encQ r).length∧(encQ r).length≤72036:=by
 have h1:=encZ_len r.num
 have h2:=encZ_len (dq r)
 obtain⟨h3,h4⟩:=h
 unfold encQ
 rw[List.length_append]
 omega
theorem e_renc (h:Fq r):Pure PP 78 [.ag (dR r)] (.o 5 1 (byL (encQ r))):=by
 have c1:=e_ienc (x:=r.num) (by have:=h.1;unfold Fz;omega)
 have c2:=e_ienc (x:=dq r) (by have:=h.2;unfold Fz;omega)
 have hl:=encQ_len h
 have l1:=encZ_len r.num
 have l2:=encZ_len (dq r)
 have c3:=e_concatB (ls:=[encZ r.num,encZ (dq r)]) (by simp;omega) (by unfold encQ at hl;simp at hl⊢;omega) (by simp) (fun b hb=>by
  simp at hb
  rcases hb with rfl|rfl<;>omega)
 simp only[List.flatten_cons,List.flatten_nil,List.append_nil]at c3
 exact tr [.newr false true _ _ _ _ _ c1 (byL_k _),.newr false true _ _ _ _ _ c2 (byL_k _),cl c3] (by kernel_rfl)
theorem e_renc4 (h:Fq r):Pure PP 100 [.ag (dR r)] (.o 5 1 (byL (encQ r))):=by
 have c1:=e_ienc3 (x:=r.num) (by have:=h.1;unfold Fz;omega)
 have c2:=e_ienc3 (x:=dq r) (by have:=h.2;unfold Fz;omega)
 have hl:=encQ_len h
 have l2:=encZ_len (dq r)
 exact tr [cl c1,cl c2,.app (byL (encZ r.num)) (byL (encZ (dq r))) (byL (encQ r)) 100000 (byL_app _ _) (by rw[byL_len];omega) (by rw[byL_len];omega)] (by kernel_rfl)
open Classical in
/-- The rational number that two integers stand for. -/
noncomputable def prQ (p:Int×Int):Option Rat:=if h:∃ r:Rat,r.num=p.1∧dq r=p.2 then some h.choose else none
theorem prQ_ok (r:Rat):prQ (r.num,dq r)=some r:=by
 have h:∃ t:Rat,t.num=(r.num,dq r).1∧dq t=(r.num,dq r).2:=⟨r,rfl,rfl⟩
 unfold prQ
 rw[dif_pos h]
 obtain⟨q1,q2⟩:=h.choose_spec
 generalize h.choose=t at q1 q2
 rw[dq_inj (r:=t) (t:=r) q1 q2]
noncomputable def decQ:List UInt8→Rat×Nat×Int:=W.dM (W.dP decZ decZ) prQ
def VQ (r:Rat):Prop:=VZ r.num∧VZ (dq r)
theorem codecQ:W.Codec encQ decQ VQ:=W.codecM (g:=fun r:Rat=>(r.num,dq r)) (W.codecP codecZ codecZ) (fun r h=>⟨h,prQ_ok r⟩) fun p r hp hx=>by
 unfold prQ at hx
 split at hx
 · rename_i h
   injection hx with hx
   obtain⟨q1,q2⟩:=h.choose_spec
   rw[hx]at q1 q2
   exact⟨Prod.ext q1 q2,by unfold VQ;rw[q1,q2];exact hp⟩
 · cases hx
end
end Go.Proofs.YtfdfbenejkmnlaaGreatDoor.E
namespace Go.Proofs.YtfdfbenejkmnlaaGreatDoor.E.Ca
open Go.RowKit
set_option linter.unusedVariables false
set_option linter.unusedSimpArgs false
def flatR (l:List (Int×Int)):List Int:=l.flatMap fun p=>[p.1,p.2]
def hdQ (c:CQ):List Int:=[c.by_,c.seq,c.tick,c.kind,c.w]
def encC (c:CQ):List UInt8:=W.encI (hdQ c)++(W.encI (flatR c.refs)++(W.encI c.fit.wh++c.fit.qs.flatMap encQ))
/-- Few digits. -/
def Fs (r:Rat):Prop:=(digs r.num.natAbs).length≤100∧(digs (dq r).natAbs).length≤100
theorem Fs.fq {r:Rat} (h:Fs r):Fq r:=⟨by have:=h.1;omega,by have:=h.2;omega⟩
theorem Fs.len {r:Rat} (h:Fs r):2≤(encQ r).length∧(encQ r).length≤1836:=by
 have h1:=encZ_len r.num
 have h2:=encZ_len (dq r)
 obtain⟨h3,h4⟩:=h
 unfold encQ
 rw[List.length_append]
 omega
structure Sq (c:CQ):Prop where
 h:∀ x∈hdQ c,W.Is64 x
 r:∀ p∈c.refs,W.Is64 p.1∧W.Is64 p.2
 f:∀ x∈c.fit.wh,W.Is64 x
 q:∀ r∈c.fit.qs,Fs r
 n:c.refs.length≤20
section
variable {c:CQ} {l:List (Int×Int)} {i:Nat}
theorem flatR_len (l:List (Int×Int)):(flatR l).length=2*l.length:=by
 unfold flatR
 induction l with
 |nil=>rfl
 |cons p r ih=>rw[List.flatMap_cons,List.length_append,ih];simp;omega
theorem flatR_mem {x:Int} (h:x∈flatR l):∃ p∈l,x=p.1∨x=p.2:=by
 obtain⟨p,hp,hx⟩:=List.mem_flatMap.1 h
 simp at hx
 exact⟨p,hp,hx⟩
theorem flatR_next {p:Int×Int} (h:l[i]? =some p):flatR (l.take (i+1))=flatR (l.take i)++[p.1,p.2]:=by
 unfold flatR
 rw[List.take_add_one,h,List.flatMap_append]
 simp
theorem rfs_at {p:Int×Int} (h:l[i]? =some p):(rfs l)[i]? =some (E.nm p):=by unfold rfs;rw[List.getElem?_map,h];rfl
theorem Sq.r64 (h:Sq c):∀ x∈flatR c.refs,W.Is64 x:=fun x hx=>by
 obtain⟨p,hp,hx⟩:=flatR_mem hx
 rcases hx with rfl|rfl
 · exact(h.r p hp).1
 · exact(h.r p hp).2
theorem wlW (l:List Int) (hl:∀ x∈l,W.Is64 x) (hb:l.length≤100):0<(W.encI l).length∧(W.encI l).length≤909:=by
 have h1:=W.encI_le l
 have h2:=(W.enc_le (l.length:Int)).1
 refine⟨by unfold W.encI;rw[List.length_append];omega,by omega⟩
/-- The first three lists. -/
def enc3 (c:CQ):List UInt8:=W.encI (hdQ c)++(W.encI (flatR c.refs)++W.encI c.fit.wh)
theorem encC_3 (c:CQ):encC c=enc3 c++c.fit.qs.flatMap encQ:=by unfold encC enc3;simp[List.append_assoc]
theorem enc3_len (h:Sq c):0<(enc3 c).length∧(enc3 c).length≤2727:=by
 have h1:=wlW (hdQ c) h.h (Nat.le_of_ble_eq_true rfl)
 have h2:=wlW (flatR c.refs) h.r64 (by rw[flatR_len];have:=h.n;omega)
 have h3:=wlW c.fit.wh h.f (Nat.le_of_ble_eq_true rfl)
 unfold enc3
 rw[List.length_append,List.length_append]
 omega
noncomputable abbrev fEn:Func:=fnOf PP 42
noncomputable abbrev fE6:Func:=fnOf PP 64
theorem e_cenc (h:Sq c):Pure PP 42 [.ag (dQ c)] (.o 5 1 (byL (encC c))):=by
 have hn:=h.n
 have hr:=h.r64
 have hrl:=flatR_len c.refs
 have h3:=enc3_len h
 have e3:=encC_3 c
 have l1:=wlW (hdQ c) h.h (Nat.le_of_ble_eq_true rfl)
 have l2:=wlW (flatR c.refs) h.r64 (by omega)
 have l3:=wlW c.fit.wh h.f (Nat.le_of_ble_eq_true rfl)
 have cc:=e_concatB (ls:=[W.encI (hdQ c),W.encI (flatR c.refs),W.encI c.fit.wh]) (by simp;omega) (by simp;omega) (by simp) (fun b hb=>by
  simp at hb
  rcases hb with rfl|rfl|rfl<;>omega)
 simp only[List.flatten_cons,List.flatten_nil,List.append_nil]at cc
 have q0:=h.q c.fit.r0 (by simp[FQ.qs]);have q1:=h.q c.fit.r1 (by simp[FQ.qs]);have q2:=h.q c.fit.r2 (by simp[FQ.qs]);have q3:=h.q c.fit.r3 (by simp[FQ.qs]);have q4:=h.q c.fit.r4 (by simp[FQ.qs]);have q5:=h.q c.fit.r5 (by simp[FQ.qs])
 have n0:=q0.len;have n1:=q1.len;have n2:=q2.len;have n3:=q3.len;have n4:=q4.len;have n5:=q5.len
 let X:Nat→St:=fun i=>at_ fEn [(1,.lp 0 0),(3,.sl (byL (W.encI (hdQ c)))),(4,.ow 2),(23,.sl (rfs c.refs)),(24,ni ((rfs c.refs).length:Int)),(25,ni i)] [.bx 42 (dQ c),.dead,.rw 3 1 (zs (flatR (c.refs.take i)))]
 let P:Nat→List UInt8:=fun i=>enc3 c++(c.fit.qs.take i).flatMap encQ
 let Y:Nat→St:=fun i=>at_ fEn [(3,.ow 5),(49,.ag (nuV c.fit.fm)),(50,ni i)] [.dead,.dead,.dead,.dead,.dead,.rw 5 1 (byL (P i))]
 have p1:P 1=P 0++encQ c.fit.r0:=by simp[P,FQ.qs]
 have p2:P 2=P 1++encQ c.fit.r1:=by simp[P,FQ.qs]
 have p3:P 3=P 2++encQ c.fit.r2:=by simp[P,FQ.qs]
 have p4:P 4=P 3++encQ c.fit.r3:=by simp[P,FQ.qs]
 have p5:P 5=P 4++encQ c.fit.r4:=by simp[P,FQ.qs]
 have p6:P 6=P 5++encQ c.fit.r5:=by simp[P,FQ.qs]
 have pe:P 6=encC c:=by rw[e3];rfl
 have pz:W.encI (hdQ c)++(W.encI (flatR c.refs)++W.encI c.fit.wh)=P 0:=by simp[P,enc3]
 rw[pz]at cc
 have pl0:(P 0).length=(enc3 c).length:=by simp[P]
 have pl1:(P 1).length=(P 0).length+(encQ c.fit.r0).length:=by rw[p1,List.length_append]
 have pl2:(P 2).length=(P 1).length+(encQ c.fit.r1).length:=by rw[p2,List.length_append]
 have pl3:(P 3).length=(P 2).length+(encQ c.fit.r2).length:=by rw[p3,List.length_append]
 have pl4:(P 4).length=(P 3).length+(encQ c.fit.r3).length:=by rw[p4,List.length_append]
 have pl5:(P 5).length=(P 4).length+(encQ c.fit.r4).length:=by rw[p5,List.length_append]
 have pl6:(P 6).length=(P 5).length+(encQ c.fit.r5).length:=by rw[p6,List.length_append]
 refine pf (by kernel_rfl) (.to mo_ [.ow 4 (.rw 3 1 [])] [1,3,4,23,24,25] [0,2] 3 [.newr false true _ _ _ _ _ (e_wints h.h (Nat.le_of_ble_eq_true rfl)) (byL_k _)] (td':=lp fEn 0) (σ':=X 0) ?_ (by kernel_rfl))
 refine Gd.loop X (fun i=>i≤c.refs.length) (fun i=>c.refs.length - i) ?_ 0 (Nat.zero_le _)
 intro i hi ih
 by_cases hlt:i<c.refs.length
 · obtain⟨p,hp,_⟩:=get_of hlt
   have hnx:=flatR_next hp
   have hl2:=flatR_len (c.refs.take (i+1))
   rw[List.length_take]at hl2
   exact .to mo_ [.mv 2 5] [1,3,4,23,24,25] [0,2] 3 [ye (t:=decide ((i:Int)<((rfs c.refs).length:Int))) (decide_eq_true (by rw[rfs_len];omega)),.sel _ _ _ (rfs_at hp),.app (zs (flatR (c.refs.take i))) (zs [p.1,p.2]) (zs (flatR (c.refs.take (i+1)))) 1000 (by rw[hnx,zs_app]) (Nat.zero_lt_succ _) (by rw[zs_len];omega),inc 36 i (by omega)] (ih (i+1) hlt (by omega)) (by kernel_rfl)
 · have hi2:i=c.refs.length:=by omega
   subst hi2
   have ht:c.refs.take c.refs.length=c.refs:=List.take_length
   have hX:X c.refs.length=at_ fEn [(1,.lp 0 0),(3,.sl (byL (W.encI (hdQ c)))),(4,.ow 2),(23,.sl (rfs c.refs)),(24,ni ((rfs c.refs).length:Int)),(25,ni (c.refs.length:Nat))] [.bx 42 (dQ c),.dead,.rw 3 1 (zs (flatR c.refs))]:=by simp only[X];rw[ht]
   rw[hX]
   refine .to mo_ [] [3,49,50] [5] 6 [na (t:=decide ((c.refs.length:Int)<((rfs c.refs).length:Int))) (decide_eq_false (by rw[rfs_len];omega)),cl (e_whole c.fit.fm),.newr false true _ _ _ _ _ (e_wints hr (by omega)) (byL_k _),.arr,.newr false true _ _ _ _ _ (e_wints h.f (Nat.le_of_ble_eq_true rfl)) (byL_k _),cl cc,cl (e_numbersC c.fit.fm)] (td':=lp fEn 1) (σ':=Y 0) ?_ (by kernel_rfl)
   refine .to mo_ [.mv 5 8] [3,49,50] [5] 6 [yt,cl (e_renc q0.fq),.app (byL (P 0)) (byL (encQ c.fit.r0)) (byL (P 1)) 100000 (by rw[byL_app,p1]) (by rw[byL_len];omega) (by rw[byL_len];omega)] (td':=lp fEn 1) (σ':=Y 1) ?_ (by kernel_rfl)
   refine .to mo_ [.mv 5 8] [3,49,50] [5] 6 [yt,cl (e_renc q1.fq),.app (byL (P 1)) (byL (encQ c.fit.r1)) (byL (P 2)) 100000 (by rw[byL_app,p2]) (by rw[byL_len];omega) (by rw[byL_len];omega)] (td':=lp fEn 1) (σ':=Y 2) ?_ (by kernel_rfl)
   refine .to mo_ [.mv 5 8] [3,49,50] [5] 6 [yt,cl (e_renc q2.fq),.app (byL (P 2)) (byL (encQ c.fit.r2)) (byL (P 3)) 100000 (by rw[byL_app,p3]) (by rw[byL_len];omega) (by rw[byL_len];omega)] (td':=lp fEn 1) (σ':=Y 3) ?_ (by kernel_rfl)
   refine .to mo_ [.mv 5 8] [3,49,50] [5] 6 [yt,cl (e_renc q3.fq),.app (byL (P 3)) (byL (encQ c.fit.r3)) (byL (P 4)) 100000 (by rw[byL_app,p4]) (by rw[byL_len];omega) (by rw[byL_len];omega)] (td':=lp fEn 1) (σ':=Y 4) ?_ (by kernel_rfl)
   refine .to mo_ [.mv 5 8] [3,49,50] [5] 6 [yt,cl (e_renc q4.fq),.app (byL (P 4)) (byL (encQ c.fit.r4)) (byL (P 5)) 100000 (by rw[byL_app,p5]) (by rw[byL_len];omega) (by rw[byL_len];omega)] (td':=lp fEn 1) (σ':=Y 5) ?_ (by kernel_rfl)
   refine .to mo_ [.mv 5 8] [3,49,50] [5] 6 [yt,cl (e_renc q5.fq),.app (byL (P 5)) (byL (encQ c.fit.r5)) (byL (P 6)) 100000 (by rw[byL_app,p6]) (by rw[byL_len];omega) (by rw[byL_len];omega)] (td':=lp fEn 1) (σ':=Y 6) ?_ (by kernel_rfl)
   rw[←pe]
   exact fi [nf] (by kernel_rfl) (by kernel_rfl)
theorem e_cenc6 (h:Sq c):Pure PP 64 [.ag (dQ c)] (.o 5 1 (byL (encC c))):=by
 have hn:=h.n
 have hr:=h.r64
 have hrl:=flatR_len c.refs
 have h3:=enc3_len h
 have e3:=encC_3 c
 have l1:=wlW (hdQ c) h.h (Nat.le_of_ble_eq_true rfl)
 have l2:=wlW (flatR c.refs) h.r64 (by omega)
 have l3:=wlW c.fit.wh h.f (Nat.le_of_ble_eq_true rfl)
 have q0:=h.q c.fit.r0 (by simp[FQ.qs]);have q1:=h.q c.fit.r1 (by simp[FQ.qs]);have q2:=h.q c.fit.r2 (by simp[FQ.qs]);have q3:=h.q c.fit.r3 (by simp[FQ.qs]);have q4:=h.q c.fit.r4 (by simp[FQ.qs]);have q5:=h.q c.fit.r5 (by simp[FQ.qs])
 have n0:=q0.len;have n1:=q1.len;have n2:=q2.len;have n3:=q3.len;have n4:=q4.len;have n5:=q5.len
 let X:Nat→St:=fun i=>at_ fE6 [(1,.lp 0 0),(3,.ow 2),(4,.ow 3),(5,ni i)] [.bx 42 (dQ c),.dead,.rw 5 1 (byL (W.encI (hdQ c))),.rw 3 1 (zs (flatR (c.refs.take i)))]
 let P:Nat→List UInt8:=fun i=>enc3 c++(c.fit.qs.take i).flatMap encQ
 let Y:Nat→St:=fun i=>at_ fE6 [(3,.ow 8),(6,.sl ((nu c.fit.fm).map cN)),(7,ni i)] [.dead,.dead,.dead,.dead,.dead,.dead,.dead,.dead,.rw 5 1 (byL (P i))]
 have p1:P 1=P 0++encQ c.fit.r0:=by simp[P,FQ.qs]
 have p2:P 2=P 1++encQ c.fit.r1:=by simp[P,FQ.qs]
 have p3:P 3=P 2++encQ c.fit.r2:=by simp[P,FQ.qs]
 have p4:P 4=P 3++encQ c.fit.r3:=by simp[P,FQ.qs]
 have p5:P 5=P 4++encQ c.fit.r4:=by simp[P,FQ.qs]
 have p6:P 6=P 5++encQ c.fit.r5:=by simp[P,FQ.qs]
 have pe:P 6=encC c:=by rw[e3];rfl
 have pl0:(P 0).length=(enc3 c).length:=by simp[P]
 have pl1:(P 1).length=(P 0).length+(encQ c.fit.r0).length:=by rw[p1,List.length_append]
 have pl2:(P 2).length=(P 1).length+(encQ c.fit.r1).length:=by rw[p2,List.length_append]
 have pl3:(P 3).length=(P 2).length+(encQ c.fit.r2).length:=by rw[p3,List.length_append]
 have pl4:(P 4).length=(P 3).length+(encQ c.fit.r3).length:=by rw[p4,List.length_append]
 have pl5:(P 5).length=(P 4).length+(encQ c.fit.r4).length:=by rw[p5,List.length_append]
 have pl6:(P 6).length=(P 5).length+(encQ c.fit.r5).length:=by rw[p6,List.length_append]
 have s0:((nu c.fit.fm).map cN)[0]? =some (dR c.fit.r0):=rfl
 have s1:((nu c.fit.fm).map cN)[1]? =some (dR c.fit.r1):=rfl
 have s2:((nu c.fit.fm).map cN)[2]? =some (dR c.fit.r2):=rfl
 have s3:((nu c.fit.fm).map cN)[3]? =some (dR c.fit.r3):=rfl
 have s4:((nu c.fit.fm).map cN)[4]? =some (dR c.fit.r4):=rfl
 have s5:((nu c.fit.fm).map cN)[5]? =some (dR c.fit.r5):=rfl
 let m2:List UInt8:=W.encI (hdQ c)++W.encI (flatR c.refs)
 have em:m2++W.encI c.fit.wh=P 0:=by simp[P,m2,enc3,List.append_assoc]
 have ml:m2.length=(W.encI (hdQ c)).length+(W.encI (flatR c.refs)).length:=List.length_append
 refine pf (by kernel_rfl) (.to mo_ [.ow 4 (.rw 3 1 [])] [1,3,4,5] [0,2,3] 4 [cl (e_rints h.h (Nat.le_of_ble_eq_true rfl))] (td':=lp fE6 0) (σ':=X 0) ?_ (by kernel_rfl))
 refine Gd.loop X (fun i=>i≤c.refs.length) (fun i=>c.refs.length - i) ?_ 0 (Nat.zero_le _)
 intro i hi ih
 by_cases hlt:i<c.refs.length
 · obtain⟨p,hp,_⟩:=get_of hlt
   have hnx:=flatR_next hp
   have hl2:=flatR_len (c.refs.take (i+1))
   rw[List.length_take]at hl2
   exact .to mo_ [.mv 3 5] [1,3,4,5] [0,2,3] 4 [ye (t:=decide ((i:Int)<((rfs c.refs).length:Int))) (decide_eq_true (by rw[rfs_len];omega)),.sel _ _ _ (rfs_at hp),.sel _ _ _ (rfs_at hp),.app (zs (flatR (c.refs.take i))) (zs [p.1,p.2]) (zs (flatR (c.refs.take (i+1)))) 1000 (by rw[hnx,zs_app]) (Nat.zero_lt_succ _) (by rw[zs_len];omega),inc 26 i (by omega)] (ih (i+1) hlt (by omega)) (by kernel_rfl)
 · have hi2:i=c.refs.length:=by omega
   subst hi2
   have ht:c.refs.take c.refs.length=c.refs:=List.take_length
   have hX:X c.refs.length=at_ fE6 [(1,.lp 0 0),(3,.ow 2),(4,.ow 3),(5,ni (c.refs.length:Nat))] [.bx 42 (dQ c),.dead,.rw 5 1 (byL (W.encI (hdQ c))),.rw 3 1 (zs (flatR c.refs))]:=by simp only[X];rw[ht]
   rw[hX]
   refine .to mo_ [] [3,6,7] [8] 9 [na (t:=decide ((c.refs.length:Int)<((rfs c.refs).length:Int))) (decide_eq_false (by rw[rfs_len];omega)),cl (e_rints hr (by omega)),.app (byL (W.encI (hdQ c))) (byL (W.encI (flatR c.refs))) (byL m2) 100000 (byL_app _ _) (by rw[byL_len];omega) (by rw[byL_len];omega),cl (e_rints h.f (Nat.le_of_ble_eq_true rfl)),.app (byL m2) (byL (W.encI c.fit.wh)) (byL (P 0)) 100000 (by rw[byL_app,em]) (by rw[byL_len];omega) (by rw[byL_len];omega),cl (e_numbersC6 c.fit.fm)] (td':=lp fE6 1) (σ':=Y 0) ?_ (by kernel_rfl)
   refine .to mo_ [.mv 8 10] [3,6,7] [8] 9 [yt,.sel _ _ _ s0,cl (e_renc4 q0.fq),.app (byL (P 0)) (byL (encQ c.fit.r0)) (byL (P 1)) 100000 (by rw[byL_app,p1]) (by rw[byL_len];omega) (by rw[byL_len];omega)] (td':=lp fE6 1) (σ':=Y 1) ?_ (by kernel_rfl)
   refine .to mo_ [.mv 8 10] [3,6,7] [8] 9 [yt,.sel _ _ _ s1,cl (e_renc4 q1.fq),.app (byL (P 1)) (byL (encQ c.fit.r1)) (byL (P 2)) 100000 (by rw[byL_app,p2]) (by rw[byL_len];omega) (by rw[byL_len];omega)] (td':=lp fE6 1) (σ':=Y 2) ?_ (by kernel_rfl)
   refine .to mo_ [.mv 8 10] [3,6,7] [8] 9 [yt,.sel _ _ _ s2,cl (e_renc4 q2.fq),.app (byL (P 2)) (byL (encQ c.fit.r2)) (byL (P 3)) 100000 (by rw[byL_app,p3]) (by rw[byL_len];omega) (by rw[byL_len];omega)] (td':=lp fE6 1) (σ':=Y 3) ?_ (by kernel_rfl)
   refine .to mo_ [.mv 8 10] [3,6,7] [8] 9 [yt,.sel _ _ _ s3,cl (e_renc4 q3.fq),.app (byL (P 3)) (byL (encQ c.fit.r3)) (byL (P 4)) 100000 (by rw[byL_app,p4]) (by rw[byL_len];omega) (by rw[byL_len];omega)] (td':=lp fE6 1) (σ':=Y 4) ?_ (by kernel_rfl)
   refine .to mo_ [.mv 8 10] [3,6,7] [8] 9 [yt,.sel _ _ _ s4,cl (e_renc4 q4.fq),.app (byL (P 4)) (byL (encQ c.fit.r4)) (byL (P 5)) 100000 (by rw[byL_app,p5]) (by rw[byL_len];omega) (by rw[byL_len];omega)] (td':=lp fE6 1) (σ':=Y 5) ?_ (by kernel_rfl)
   refine .to mo_ [.mv 8 10] [3,6,7] [8] 9 [yt,.sel _ _ _ s5,cl (e_renc4 q5.fq),.app (byL (P 5)) (byL (encQ c.fit.r5)) (byL (P 6)) 100000 (by rw[byL_app,p6]) (by rw[byL_len];omega) (by rw[byL_len];omega)] (td':=lp fE6 1) (σ':=Y 6) ?_ (by kernel_rfl)
   rw[←pe]
   exact fi [nf] (by kernel_rfl) (by kernel_rfl)
end
end Go.Proofs.YtfdfbenejkmnlaaGreatDoor.E.Ca
namespace Go.Proofs.YtfdfbenejkmnlaaGreatDoor.W
open Go.RowKit
section
variable {α:Type} {e:α→List UInt8} {d:List UInt8→α×Nat×Int} {V:α→Prop}
/-- So many elements. -/
def dN (d:List UInt8→α×Nat×Int) (k:Nat) (b:List UInt8):List α×Nat×Int:=seqD d b k 0 []
theorem codecN (h:Codec e d V) (k:Nat) (hk:0<k):Codec (fun l:List α=>l.flatMap e) (dN d k) (fun l=>l.length=k∧∀ x∈l,V x) where
  back:=fun l hl t=>by
    have:=seqD_back h l [] t [] hl.2
    rw[List.nil_append,List.nil_append,List.length_nil,Nat.zero_add,hl.1]at this
    exact this
  canon:=fun b he=>by
    obtain⟨l',i1,i2,i3,i4,i5,i6⟩:=seqD_canon h b k 0 [] (Nat.zero_le _) he
    rw[List.nil_append]at i1
    unfold dN
    rw[i1]
    refine⟨⟨i2,i3⟩,i5, ?_⟩
    rw[i4,Nat.zero_add]
    simpa using i6
  short:=fun l hl i hi=>by
    have:=seqD_short h l [] i [] hl.2 hi
    rw[List.nil_append,List.length_nil,hl.1]at this
    exact this
  pos:=fun l hl=>by
    have:=flat_len h l hl.2
    omega
/-- A list of so many numbers; of an even number. -/
def dL (k:Nat):List UInt8→List Int×Nat×Int:=dM decI fun l=>if l.length=k then some l else none
def dEv:List UInt8→List Int×Nat×Int:=dM decI fun l=>if l.length % 2=0 then some l else none
theorem codecL (k:Nat):Codec encI (dL k) (fun l=>VI l∧l.length=k):=codecM (g:=id) codecI (fun y h=>⟨h.1,by simp[h.2]⟩) fun x y hx h=>by
  by_cases hk:x.length=k
  · rw[if_pos hk]at h;injection h with h;subst h;exact⟨rfl,hx,hk⟩
  · rw[if_neg hk]at h;cases h
theorem codecEv:Codec encI dEv (fun l=>VI l∧l.length % 2=0):=codecM (g:=id) codecI (fun y h=>⟨h.1,by simp[h.2]⟩) fun x y hx h=>by
  by_cases hk:x.length % 2=0
  · rw[if_pos hk]at h;injection h with h;subst h;exact⟨rfl,hx,hk⟩
  · rw[if_neg hk]at h;cases h
end
end Go.Proofs.YtfdfbenejkmnlaaGreatDoor.W
namespace Go.Proofs.YtfdfbenejkmnlaaGreatDoor.E.Ca
open Go.RowKit
set_option linter.unusedVariables false
set_option linter.unusedSimpArgs false
/-- Numbers in pairs. -/
def pairs:List Int→List (Int×Int)
 |a::b::r=>(a,b)::pairs r
 |_=>[]
theorem pairs_flat:∀ l:List (Int×Int),pairs (flatR l)=l
 |[]=>rfl
 |p::r=>by
  have ih:=pairs_flat r
  show pairs (p.1::p.2::flatR r)=_
  rw[pairs,ih]
theorem flat_pairs:∀ l:List Int,l.length % 2=0→flatR (pairs l)=l
 |[],_=>rfl
 |[a],h=>by simp at h
 |a::b::r,h=>by
  have ih:=flat_pairs r (by simp at h;omega)
  show flatR ((a,b)::pairs r)=_
  unfold flatR at ih⊢
  rw[List.flatMap_cons,ih]
  rfl
instance:Inhabited CQ:=⟨⟨0,0,0,0,[],zQ,0⟩⟩
def mkC (x:List Int×List Int×List Int×List Rat):CQ:=⟨x.1.getD 0 0,x.1.getD 1 0,x.1.getD 2 0,x.1.getD 3 0,pairs x.2.1,⟨x.2.2.1.getD 0 0,x.2.2.1.getD 1 0,x.2.2.1.getD 2 0,x.2.2.1.getD 3 0,x.2.2.1.getD 4 0,x.2.2.2.getD 0 0,x.2.2.2.getD 1 0,x.2.2.2.getD 2 0,x.2.2.2.getD 3 0,x.2.2.2.getD 4 0,x.2.2.2.getD 5 0⟩,x.1.getD 4 0⟩
noncomputable def dC4:List UInt8→(List Int×List Int×List Int×List Rat)×Nat×Int:=W.dP (W.dL 5) (W.dP W.dEv (W.dP (W.dL 5) (W.dN decQ 6)))
noncomputable def decC:List UInt8→CQ×Nat×Int:=W.dM dC4 fun x=>some (mkC x)
def VC (c:CQ):Prop:=W.VI (hdQ c)∧W.VI (flatR c.refs)∧W.VI c.fit.wh∧∀ r∈c.fit.qs,VQ r
def gC (c:CQ):List Int×List Int×List Int×List Rat:=(hdQ c,flatR c.refs,c.fit.wh,c.fit.qs)
theorem mkC_g (c:CQ):mkC (gC c)=c:=by
 obtain⟨b,s,t,k,r,⟨f1,f2,f3,f4,f5,r0,r1,r2,r3,r4,r5⟩,w⟩:=c
 simp only[mkC,gC,hdQ,FQ.wh,FQ.qs,pairs_flat]
 rfl
theorem list5 {l:List Int} (h:l.length=5):l=[l.getD 0 0,l.getD 1 0,l.getD 2 0,l.getD 3 0,l.getD 4 0]:=by
 match l,h with
 |[a,b,c,d,e],_=>rfl
theorem list6 {l:List Rat} (h:l.length=6):l=[l.getD 0 0,l.getD 1 0,l.getD 2 0,l.getD 3 0,l.getD 4 0,l.getD 5 0]:=by
 match l,h with
 |[a,b,c,d,e,f],_=>rfl
theorem codecC:W.Codec encC decC VC:=W.codecM (g:=gC) (W.codecP (W.codecL 5) (W.codecP W.codecEv (W.codecP (W.codecL 5) (W.codecN codecQ 6 (by decide))))) (fun c h=>⟨⟨⟨h.1,rfl⟩,⟨h.2.1,by show(flatR c.refs).length % 2=0;rw[flatR_len];omega⟩,⟨h.2.2.1,rfl⟩,rfl,h.2.2.2⟩,by rw[mkC_g]⟩) fun x c hx h=>by
 injection h with h
 subst h
 obtain⟨⟨v1,n1⟩,⟨v2,n2⟩,⟨v3,n3⟩,n4,v4⟩:=hx
 obtain⟨A,E,F,Q⟩:=x
 simp only at v1 n1 v2 n2 v3 n3 n4 v4
 have e1:hdQ (mkC (A,E,F,Q))=A:=(list5 n1).symm
 have e2:flatR (mkC (A,E,F,Q)).refs=E:=flat_pairs E n2
 have e3:(mkC (A,E,F,Q)).fit.wh=F:=(list5 n3).symm
 have e4:(mkC (A,E,F,Q)).fit.qs=Q:=(list6 n4).symm
 refine⟨by unfold gC;rw[e1,e2,e3,e4], ?_⟩
 unfold VC
 rw[e1,e2,e3,e4]
 exact⟨v1,v2,v3,v4⟩
section
end
end Go.Proofs.YtfdfbenejkmnlaaGreatDoor.E.Ca








namespace Go.Proofs.YtfdfbenejkmnlaaGreatDoor.E.Ca
open Go.RowKit
set_option linter.unusedVariables false
set_option linter.unusedSimpArgs false
/-- Claims whose rational numbers are such, with few references. -/
def Qc (c:CM):Prop:=∃ q:CQ,c=q.cm∧q.refs.length≤10
theorem Qc.c0:Qc c0:=⟨⟨0,0,0,0,[],zQ,0⟩,by unfold CQ.cm;simp only[zQ_fm],by decide⟩
section
variable {l:List Int} {i:Nat} {b s t kd:Int} {rf:List (Int×Int)}
theorem clG_q (hr:rf.length≤10):Qc (clG l i b s t rf kd):=by
 unfold clG
 split
 · exact⟨⟨b,s,t,0,[],zQ,1+atz l (5*i+4) 8⟩,by unfold CQ.cm;simp only[zQ_fm],by simp⟩
 · exact⟨⟨b,s,t,1,rf,fitQ l (5*i+2),0⟩,rfl,hr⟩
 · exact⟨⟨b,s,t,kd,rf,zQ,0⟩,by unfold CQ.cm;simp only[zQ_fm],hr⟩
theorem good_q:∀ i,i≤10→∀ c∈(goodF l i).1,Qc c
 |0,_,c,hc=>by cases hc
 |i+1,hi,c,hc=>by
  have ih:=good_q i (by omega)
  have hl:=good_len (l:=l) i
  rcases List.mem_append.1 hc with h|h
  · exact ih c h
  · rw[List.mem_singleton]at h
    subst h
    refine clG_q ?_
    unfold rfG
    have:=refsF_len (L:=(goodF l i).1) (bits:=bitsG l i) (goodF l i).1.length
    omega
theorem goodL_q:∀ c∈goodL l,Qc c:=good_q _ (Nat.min_le_left _ _)
theorem getD_q {L:List CM} (h:∀ c∈L,Qc c) (i:Nat):Qc (L.getD i c0):=by
 rw[List.getD_eq_getElem?_getD]
 cases e:L[i]? with
 |none=>exact Qc.c0
 |some c=>exact h c (List.mem_of_getElem? e)
theorem someC_q {c:CM} (h:Qc c):Qc (someC l i c):=by
 obtain⟨q,rfl,hq⟩:=h
 unfold someC
 split
 · exact⟨⟨q.by_,atz l (5*i+2) 2,atz l (5*i+3) 3,3,[(atz l (5*i+3) 2,atz l (5*i+1) 2),(atz l (5*i) 1,(atz l (5*i+4) 3).tdiv 2)],q.fit,q.w⟩,rfl,by simp⟩
 · exact⟨⟨q.by_,atz l (5*i+2) 2,atz l (5*i+3) 3,q.kind,q.refs,q.fit,q.w⟩,rfl,hq⟩
theorem some_q:∀ i,∀ c∈someF l i,Qc c
 |0,c,hc=>by cases hc
 |i+1,c,hc=>by
  rcases List.mem_append.1 hc with h|h
  · exact some_q i c h
  · rw[List.mem_singleton]at h
    subst h
    exact someC_q (getD_q goodL_q i)
theorem odd_q {q:CQ} (h n:Int):∃ p:CQ,oddF q.cm h n=p.cm:=by
 unfold oddF
 by_cases e0:h=0
 · rw[if_pos e0];exact⟨{q with by_:=n},rfl⟩
 rw[if_neg e0]
 by_cases e1:h=1
 · rw[if_pos e1];exact⟨{q with seq:=n},rfl⟩
 rw[if_neg e1]
 by_cases e2:h=2
 · rw[if_pos e2];exact⟨{q with tick:=n},rfl⟩
 rw[if_neg e2]
 by_cases e3:h=3
 · rw[if_pos e3];exact⟨{q with kind:=n},rfl⟩
 rw[if_neg e3]
 by_cases e4:h=4
 · rw[if_pos e4];exact⟨{q with w:=n},rfl⟩
 rw[if_neg e4]
 by_cases e5:h=5
 · rw[if_pos e5];exact⟨{q with refs:=q.refs++[(n,n)]},rfl⟩
 rw[if_neg e5]
 by_cases e6:h=6
 · rw[if_pos e6];exact⟨{q with refs:=q.refs++[(q.by_,q.seq)]},rfl⟩
 rw[if_neg e6]
 by_cases e7:h=7
 · rw[if_pos e7];exact⟨{q with fit:={q.fit with many:=n}},rfl⟩
 rw[if_neg e7]
 by_cases e8:h=8
 · rw[if_pos e8];exact⟨{q with fit:={q.fit with a:=n}},rfl⟩
 rw[if_neg e8]
 by_cases e9:h=9
 · rw[if_pos e9];exact⟨{q with fit:={q.fit with r0:=Rat.divInt n 7}},rfl⟩
 rw[if_neg e9]
 by_cases e10:h=10
 · rw[if_pos e10];exact⟨{q with fit:={q.fit with r2:=Rat.divInt n 2}},rfl⟩
 rw[if_neg e10]
 exact⟨{q with fit:={q.fit with eb:=n}},rfl⟩
end
section
end
end Go.Proofs.YtfdfbenejkmnlaaGreatDoor.E.Ca
namespace Go.Proofs.YtfdfbenejkmnlaaGreatDoor.E.Ca
open Go.RowKit
set_option linter.unusedVariables false
set_option linter.unusedSimpArgs false
section
variable {p q r:Int×Int} {o:List (Int×Int)} {n:Int×Int} {L:List CM} {bits:Int} {i k:Nat} {l:List Int}
/-- Increasing. -/
def Srt (o:List (Int×Int)):Prop:=o.Pairwise fun x y=>lessN x y=true
theorem getD_mem {α:Type} {l:List α} {i:Nat} {d:α} (h:i<l.length):l.getD i d∈l:=by rw[List.getD_eq_getElem?_getD,List.getElem?_eq_getElem h];exact List.getElem_mem _
theorem srt_at (h:Srt o) {a b:Nat} (hab:a<b) (hb:b<o.length):lessN (o.getD a (0,0)) (o.getD b (0,0))=true:=by
 have:=List.pairwise_iff_getElem.1 h a b (by omega) hb hab
 rw[List.getD_eq_getElem?_getD,List.getD_eq_getElem?_getD,List.getElem?_eq_getElem (by omega),List.getElem?_eq_getElem hb]
 exact this
theorem refers_of {p:Int×Int} {rf:List (Int×Int)} (h1:∀ x∈rf,possB x=true∧x≠p) (h2:Srt rf):refersB p rf=true:=by
 refine refers_yes (n:=rf.length) (Nat.lt_irrefl _) fun t ht=> ?_
 have hm:=h1 _ (getD_mem (d:=((0:Int),(0:Int))) ht)
 unfold badAt
 rw[hm.1,decide_eq_false hm.2]
 by_cases h0:t=0
 · subst h0;rfl
 · rw[ord_ge,srt_at h2 (by omega:t - 1<t) ht]
   simp
end
end Go.Proofs.YtfdfbenejkmnlaaGreatDoor.E.Ca
namespace Go.Proofs.YtfdfbenejkmnlaaGreatDoor.E.Ca
open Go.RowKit
set_option linter.unusedVariables false
set_option linter.unusedSimpArgs false
section
variable {l:List Int} {i k j:Nat} {c d:CM} {how n more m:Int} {lo:List (Int×Int)}
def FB (c:CM):Prop:=FBits 100 c.fit
theorem clG_fb {b s t kd:Int} {rf:List (Int×Int)}:FB (clG l i b s t rf kd):=by
 unfold clG FB
 split
 · exact zF_bits
 · exact fit_bits l _
 · exact zF_bits
theorem good_fb:∀ i,∀ c∈(goodF l i).1,FB c
 |0,c,hc=>by cases hc
 |i+1,c,hc=>by
  rcases List.mem_append.1 hc with h|h
  · exact good_fb i c h
  · rw[List.mem_singleton]at h
    subst h
    exact clG_fb
theorem bd64 {x:Int} (h:W.Is64 x):I.Bd 64 x:=by unfold I.Bd;unfold W.Is64 at h;simp;omega
theorem FB.odd (h:FB c) (x:Int) (hn:W.Is64 n):FB (oddF c x n):=by
 have b7:Bq 100 (Rat.divInt n 7):=(Bq.divInt (k:=64) (bd64 hn) (bd64 is7) (by omega)).mono (by omega)
 have b2:Bq 100 (Rat.divInt n 2):=(Bq.divInt (k:=64) (bd64 hn) (bd64 is2) (by omega)).mono (by omega)
 unfold oddF
 by_cases e0:x=0
 · rw[if_pos e0];exact h
 rw[if_neg e0]
 by_cases e1:x=1
 · rw[if_pos e1];exact h
 rw[if_neg e1]
 by_cases e2:x=2
 · rw[if_pos e2];exact h
 rw[if_neg e2]
 by_cases e3:x=3
 · rw[if_pos e3];exact h
 rw[if_neg e3]
 by_cases e4:x=4
 · rw[if_pos e4];exact h
 rw[if_neg e4]
 by_cases e5:x=5
 · rw[if_pos e5];exact h
 rw[if_neg e5]
 by_cases e6:x=6
 · rw[if_pos e6];exact h
 rw[if_neg e6]
 by_cases e7:x=7
 · rw[if_pos e7];exact h
 rw[if_neg e7]
 by_cases e8:x=8
 · rw[if_pos e8];exact h
 rw[if_neg e8]
 by_cases e9:x=9
 · rw[if_pos e9]
   intro y hy
   simp only[nu,List.mem_cons,List.not_mem_nil,or_false]at hy
   rcases hy with rfl|rfl|rfl|rfl|rfl|rfl
   · exact bq_bn b7
   all_goals exact h _ (by simp[nu])
 rw[if_neg e9]
 by_cases e10:x=10
 · rw[if_pos e10]
   intro y hy
   simp only[nu,List.mem_cons,List.not_mem_nil,or_false]at hy
   rcases hy with rfl|rfl|rfl|rfl|rfl|rfl
   · exact h _ (by simp[nu])
   · exact h _ (by simp[nu])
   · exact bq_bn b2
   all_goals exact h _ (by simp[nu])
 rw[if_neg e10]
 exact h
theorem odd_len (x:Int):(oddF c x n).refs.length≤c.refs.length+1:=by
 unfold oddF
 by_cases e0:x=0
 · rw[if_pos e0];exact Nat.le_succ _
 rw[if_neg e0]
 by_cases e1:x=1
 · rw[if_pos e1];exact Nat.le_succ _
 rw[if_neg e1]
 by_cases e2:x=2
 · rw[if_pos e2];exact Nat.le_succ _
 rw[if_neg e2]
 by_cases e3:x=3
 · rw[if_pos e3];exact Nat.le_succ _
 rw[if_neg e3]
 by_cases e4:x=4
 · rw[if_pos e4];exact Nat.le_succ _
 rw[if_neg e4]
 by_cases e5:x=5
 · rw[if_pos e5];simp
 rw[if_neg e5]
 by_cases e6:x=6
 · rw[if_pos e6];simp
 rw[if_neg e6]
 by_cases e7:x=7
 · rw[if_pos e7];exact Nat.le_succ _
 rw[if_neg e7]
 by_cases e8:x=8
 · rw[if_pos e8];exact Nat.le_succ _
 rw[if_neg e8]
 by_cases e9:x=9
 · rw[if_pos e9];exact Nat.le_succ _
 rw[if_neg e9]
 by_cases e10:x=10
 · rw[if_pos e10];exact Nat.le_succ _
 rw[if_neg e10]
 exact Nat.le_succ _
end
end Go.Proofs.YtfdfbenejkmnlaaGreatDoor.E.Ca
