/-
 THE LAWS by the engine, their arguments as they come in.
-/
import Derived.Test.YtfdfbenejkmnlaaGreatDoorDpC
import Derived.Test.YtfdfbenejkmnlaaGreatDoorFlow
import Derived.OpenShut
import Derived.Test.YtfdfbenejkmnlaaGreatDoorCaA
namespace Go.Proofs.YtfdfbenejkmnlaaGreatDoor.E.Ca
open Go.RowKit Hs
set_option linter.unusedVariables false
set_option linter.unusedSimpArgs false
section
variable {L C:List CQ} {p:Int×Int} {q r c:CQ} {b t:Int} {i j k m n:Nat} {l:List Int} {H:List (Int×DG)} {x:Int×DG}
theorem takL_from (ha:Arc n L):∀ (d i:Nat) (m:Int),i+d=L.length→takL n (L.take i) (L.drop i) m=(L,m+d,0)
 |0,i,m,hi=>by
  rw[List.drop_eq_nil_of_le (by omega),List.take_of_length_le (by omega),takL]
  simp
 |d+1,i,m,hi=>by
  obtain⟨q,hq⟩:∃ q,L[i]? =some q:=⟨_,List.getElem?_eq_getElem (by omega)⟩
  have dr:L.drop i=q::L.drop (i+1):=by
   obtain⟨l1,g1⟩:=List.getElem?_eq_some_iff.1 hq
   rw[List.drop_eq_getElem_cons l1,g1]
  obtain⟨a1,a2,a3⟩:=ha.again hq
  rw[dr,takL,if_pos a1,a2,a3,if_pos rfl,takL_from ha d (i+1) (m+1) (by omega)]
  congr 2
  omega
theorem takL_all (ha:Arc n L):takL n [] L 0=(L,(L.length:Int),0):=by
 have:=takL_from ha L.length 0 0 (by omega)
 rw[List.take_zero,List.drop_zero]at this
 simpa using this
theorem e_newN (h:1≤n∧n≤5):PureT PP 31 [] [ni n] (.io 0 (hA_ (cnts n []) []) (.tu [.lp 2 0,ni 0])):=by
 have:=e_new h
 rw[cnts_nil]at this
 exact this
theorem e_filled (ha:Arc n L):PureT PP 9 [] [ni n,slQ L] (.io 0 (hA_ (cnts n L) L) (.lp 2 0)):=by
 have nw:=e_newN ha.n1
 have tk:=e_takeL (Arc.nil ha.n1) (l:=L) (fun c hc=>⟨ha.sq c hc,ha.fb c hc⟩) (by have:=ha.len;omega)
 rw[takL_all ha]at tk
 simp only at tk
 unfold hA_ slQ at*
 generalize mpL L=M at*
 generalize mpL []=M0 at*
 exact trT [.lend _ _ _ _ [] nw,nf,pnA 18 2,nf,.lend _ _ _ _ [0,1,2] tk,nf] (by kernel_rfl)
theorem hd_next (h:H[i]? =some x):(H.take i).map hdV++[ni x.1::w16 x.2]=(H.take (i+1)).map hdV:=by
 rw[List.take_add_one,h,List.map_append]
 rfl
noncomputable abbrev fLH:Func:=fnOf PP 25
noncomputable def lhX (cs:List Int) (L:List CQ) (H:List (Int×DG)) (i:Nat):St:=at_ fLH [(0,.lp 2 0),(3,.ow 3),(4,slH H),(5,ni i)] [.rw TI 1 (zs cs),.mp (mpL L),.bx TArc [.ow 0,.nm 1],.rw TRH 17 ((H.take i).map hdV)]
theorem e_lheads (ha:Arc n L):PureT PP 25 (hA_ (cnts n L) L) [.lp 2 0] (.io 3 (hA_ (cnts n L) L) (slH (hdsL n L))):=by
 have hh:=e_heads ha
 have n1:=ha.n1
 have hn:(hdsL n L).length≤5:=by unfold hdsL;rw[List.length_map,List.length_range];omega
 generalize hdsL n L=H at*
 have ll:(H.map hdV).length=H.length:=List.length_map ..
 have go:Gd PP 25 (.io 3 (hA_ (cnts n L) L) (slH H)) (lp fLH 0) (lhX (cnts n L) L H 0):=by
  refine Gd.loop (lhX (cnts n L) L H) (fun i=>i≤H.length) (fun i=>H.length - i) ?_ 0 (Nat.zero_le _)
  intro i hi ih
  by_cases h:i<H.length
  · have lt:decide ((i:Int)<((H.map hdV).length:Int))=true:=decide_eq_true (by omega)
    obtain⟨x,hx⟩:∃ x,H[i]? =some x:=⟨_,List.getElem?_eq_getElem h⟩
    have s1:=hd_at hx
    have nx:=ih (i+1) h (by omega)
    have ap:=hd_next hx
    have al:((H.take (i+1)).map hdV).length≤2000:=by rw[List.length_map,List.length_take];omega
    unfold lhX at nx⊢
    unfold slH hA_ at*
    generalize (H.take (i+1)).map hdV=R2 at*
    generalize (H.take i).map hdV=R at*
    generalize mpL L=M at*
    exact .to mo_ [.mv 3 5] [0,3,4,5] [0,1,2,3] 4 [ye lt,.sel _ _ _ s1,.sel _ _ _ s1,.app _ _ _ 2000 ap (Nat.zero_lt_succ _) al,inc 13 i (by omega)] nx (by kernel_rfl)
  · have lt:decide ((i:Int)<((H.map hdV).length:Int))=false:=decide_eq_false (by omega)
    unfold lhX
    rw[List.take_of_length_le (by omega)]
    unfold slH hA_
    generalize mpL L=M at*
    exact fiG [.fz 2] [na lt] (by kernel_rfl) (by kernel_rfl)
 unfold lhX at go
 unfold slH hA_ hC_ at*
 rw[List.take_zero]at go
 generalize mpL L=M at*
 exact pfT (by kernel_rfl) (.to mo_ [.fz 4,.ow 3 (.rw TRH 17 []),.mv 3 4] [0,3,4,5] [0,1,2,3] 4 [.lend _ _ _ _ [0,1,2] hh] go (by kernel_rfl))
/-- Grown. -/
def numA (l:List Int):Nat:=min 10 (l.length / 3)
noncomputable abbrev fGr:Func:=fnOf PP 5
noncomputable def grX (n:Nat) (l:List Int) (i:Nat):St:=at_ fGr [(0,ni n),(1,zl l),(4,.lp 0 0),(5,.lp 1 0),(6,ni i)] [.bx TRA [ni 0,.nl],.bx TRA (aR n (grw n l i))]
theorem e_grown (hn:1≤n∧n≤5) (hl:∀ x∈l,W.Is64 x):Pure PP 5 [ni n,zl l] (.ag (aR n (grw n l (numA l)))):=by
 have lz:(zs l).length=l.length:=List.length_map ..
 refine .len 1 (l:=zs l) (by kernel_rfl) rfl fun hm=> ?_
 rw[lz]at hm
 unfold maxLen at hm
 refine pf (by kernel_rfl) (.to mo_ [.wk 1] [0,1,4,5,6] [0,1] 2 [] (td':=lp fGr 0) (σ':=grX n l 0) ?_ (by kernel_rfl))
 refine Gd.loop (grX n l) (fun i=>i≤numA l) (fun i=>numA l - i) ?_ 0 (Nat.zero_le _)
 intro i hi ih
 have hi10:i≤10:=by unfold numA at hi;omega
 obtain⟨ha,hlen,ht,hmk⟩:=grw_ok hn l i (by omega)
 have e16:ni ((zs l).length:Int)=ni (l.length:Int):=by rw[lz]
 by_cases h:i<numA l
 · have h2:3*i+2<l.length∧i<10:=by unfold numA at h;omega
   have lt:decide (((3*i+2:Nat):Int)<(l.length:Int))=true:=decide_eq_true (by omega)
   have lt2:decide ((i:Int)<10)=true:=decide_eq_true (by omega)
   have nx:=ih (i+1) h (by omega)
   obtain⟨m,hm1⟩:∃ m,n=m+1:=⟨n - 1,by omega⟩
   have at_:=e_at hl (3*i) (n - 1)
   rw[show n - 1+1=n by omega]at at_
   have s1:=zs_el (l:=l) (i:=3*i+1) (by omega)
   have s2:=zs_el (l:=l) (i:=3*i+2) (by omega)
   have w1:W.Is64 (l.getD (3*i+1) 0):=hl _ (by rw[List.getD_eq_getElem?_getD,List.getElem?_eq_getElem (by omega)];exact List.getElem_mem _)
   have w2:W.Is64 (l.getD (3*i+2) 0):=hl _ (by rw[List.getD_eq_getElem?_getD,List.getElem?_eq_getElem (by omega)];exact List.getElem_mem _)
   have cn:=e_content ha (b:=atz l (3*i) (n - 1)) w1 w2
   have cg:=cnt_g ha (b:=atz l (3*i) (n - 1)) (sm64 (by have:=atz_by hn.1 l (3*i);omega)) (l.getD (3*i+1) 0) (l.getD (3*i+2) 0)
   have mk:=e_rmake ha cg.1 cg.2
   obtain⟨k1,k2⟩:=hmk (l.getD (3*i+1) 0) (l.getD (3*i+2) 0)
   have ew:mkW n (grw n l i) (cntQ n (grw n l i) (atz l (3*i) (n - 1)) (l.getD (3*i+1) 0) (l.getD (3*i+2) 0))=dQ (mkQ n (grw n l i) (cntQ n (grw n l i) (atz l (3*i) (n - 1)) (l.getD (3*i+1) 0) (l.getD (3*i+2) 0))):=if_pos k2
   rw[k1,k2,ew]at mk
   have nx2:grw n l (i+1)=grw n l i++[mkQ n (grw n l i) (cntQ n (grw n l i) (atz l (3*i) (n - 1)) (l.getD (3*i+1) 0) (l.getD (3*i+2) 0))]:=rfl
   unfold grX at nx⊢
   rw[nx2]at nx
   generalize l.getD (3*i+1) 0=y1 at*
   generalize l.getD (3*i+2) 0=y2 at*
   generalize cntQ n (grw n l i) (atz l (3*i) (n - 1)) y1 y2=c at*
   unfold PCn at cn
   unfold PRM mD at mk
   unfold aR slQ at*
   generalize (grw n l i++[mkQ n (grw n l i) c]).map dQ=R2 at*
   generalize (grw n l i).map dQ=R at*
   exact .to mo_ [] [0,1,4,5,6] [0,1] 2 [wq 13 (3*(i:Int)) ((3*i:Nat):Int) (by omega),wq 14 (((3*i:Nat):Int)+2) ((3*i+2:Nat):Int) (by omega),.eqv 16 _ _ e16,ye lt,ye lt2,wq 29 (3*(i:Int)) ((3*i:Nat):Int) (by omega),cl at_,wq 34 (3*(i:Int)) ((3*i:Nat):Int) (by omega),wq 35 (((3*i:Nat):Int)+1) ((3*i+1:Nat):Int) (by omega),.sel _ _ _ s1,wq 40 (3*(i:Int)) ((3*i:Nat):Int) (by omega),wq 41 (((3*i:Nat):Int)+2) ((3*i+2:Nat):Int) (by omega),.sel _ _ _ s2,cl cn,cl mk,yt,inc 23 i (by omega)] nx (by kernel_rfl)
 · have hh:i=numA l:=by omega
   have F0:∀ {D:RD},Gd PP 5 D (lp fGr 0) (grX n l i)→Gd PP 5 D (lp fGr 0) (grX n l i):=fun g=>g
   rw[←hh]
   unfold grX aR slQ
   by_cases h2:3*i+2<l.length
   · have h10:¬i<10:=fun g=>h (by unfold numA;omega)
     have lt:decide (((3*i+2:Nat):Int)<(l.length:Int))=true:=decide_eq_true (by omega)
     have lt2:decide ((i:Int)<10)=false:=decide_eq_false (by omega)
     exact fi [wq 13 (3*(i:Int)) ((3*i:Nat):Int) (by omega),wq 14 (((3*i:Nat):Int)+2) ((3*i+2:Nat):Int) (by omega),.eqv 16 _ _ e16,ye lt,na lt2] (by kernel_rfl) (by kernel_rfl)
   · have lt:decide (((3*i+2:Nat):Int)<(l.length:Int))=false:=decide_eq_false (by omega)
     exact fi [wq 13 (3*(i:Int)) ((3*i:Nat):Int) (by omega),wq 14 (((3*i:Nat):Int)+2) ((3*i+2:Nat):Int) (by omega),.eqv 16 _ _ e16,na lt,nf] (by kernel_rfl) (by kernel_rfl)
end
end Go.Proofs.YtfdfbenejkmnlaaGreatDoor.E.Ca
namespace Go.Proofs.YtfdfbenejkmnlaaGreatDoor.E.Ca
open Go.RowKit Hs
set_option linter.unusedVariables false
set_option linter.unusedSimpArgs false
section
variable {L C:List CQ} {p:Int×Int} {q r c:CQ} {b t:Int} {i j k m n:Nat} {l:List Int} {H:List (Int×DG)} {x:Int×DG} {w:World}
def bts (W:DG):List Int:=(List.range 16).map fun i=>((W i).toNat:Int)
theorem w16_kv (W:DG):(w16 W).map kv=(bts W).map (Value.int .u8):=by
 unfold w16 bts
 rw[List.map_map,List.map_map]
 rfl
theorem eqD_at (d:Nat) (W:DG):(Op.equalIn (d+2) TD (.agg ((bts W).map (Value.int .u8)).toArray) (.agg ((bts W).map (Value.int .u8)).toArray)).run PP w= .ok true w:=by
 have h:bOk PP TD 16=true:=by kernel_rfl
 unfold bOk at h
 split at h
 · rename_i k e hu
   simp only[Bool.and_eq_true]at h
   obtain⟨h1,h2,h3,h4⟩:=h
   have h1:=Nat.eq_of_beq_eq_true h1
   have h3:=Nat.eq_of_beq_eq_true h3
   obtain⟨i,hi⟩:=Option.isSome_iff_exists.1 h4
   have hl:(bts W).length=k:=by unfold bts;rw[List.length_map,List.length_range,h1]
   rw[run_equalIn_array w (d+1) _ _ hu hi,h3,List.range_eq_range']
   have:=eqItems_b (w:=w) d (bT_of h2) k 0 (bts W) (bts W) [] [] hl hl rfl rfl
   rw[decide_eq_true rfl]at this
   exact this
 · cases h
def hdOk (P:Program) (T D:TypeId):Bool:=match P.underlying T with
 |some (.struct fs)=>(match fs.toList with
  |[a,b]=>a.name != "_" &&(iT P a.type&&(Nat.beq a.offset 0&&(b.name != "_" &&(Nat.beq b.type D&&Nat.beq b.offset 1))))
  |_=>false)&& !P.stoodInHeld T
 |_=>false
theorem sixteen {α:Type} {l:List α} (h:l.length=16):∃ a0 a1 a2 a3 a4 a5 a6 a7 a8 a9 b0 b1 b2 b3 b4 b5,l=[a0,a1,a2,a3,a4,a5,a6,a7,a8,a9,b0,b1,b2,b3,b4,b5]:=by
 match l,h with
 |[a0,a1,a2,a3,a4,a5,a6,a7,a8,a9,b0,b1,b2,b3,b4,b5],_=>exact⟨_,_,_,_,_,_,_,_,_,_,_,_,_,_,_,_,rfl⟩
theorem part_D (v:Value) {l:List Value} (h:l.length=16):(part TD (v::l).toArray 1).run PP w= .ok (.agg l.toArray) w:=by
 obtain⟨a0,a1,a2,a3,a4,a5,a6,a7,a8,a9,b0,b1,b2,b3,b4,b5,rfl⟩:=sixteen h
 kernel_rfl
theorem eqH (x:Int×DG):EqA PP TRH (hdV x) (hdV x) true:=fun w=>by
 have h:hdOk PP TRH TD=true:=by kernel_rfl
 unfold hdOk at h
 split at h
 · rename_i fs hu
   rw[Bool.and_eq_true]at h
   obtain⟨h,hs⟩:=h
   split at h
   · rename_i f0 f1 hfs
     simp only[Bool.and_eq_true,bne_iff_ne]at h
     obtain⟨n0,i0,o0,n1,t1,o1⟩:=h
     have i0:=iT_of i0
     have o0:=Nat.eq_of_beq_eq_true o0
     have t1:=Nat.eq_of_beq_eq_true t1
     have o1:=Nat.eq_of_beq_eq_true o1
     have hf:PP.fieldsOf TRH=fs:=by simp[Program.fieldsOf,hu]
     have cs:(hdV x).map kv=Value.int .i64 x.1::(bts x.2).map (Value.int .u8):=by
      show kv (ni x.1)::(w16 x.2).map kv=_
      rw[w16_kv]
      rfl
     have bl:((bts x.2).map (Value.int .u8)).length=16:=by unfold bts;simp
     rw[cs]
     show(Op.equalIn 10000 TRH _ _).run PP w=_
     rw[run_equalIn_struct w 9999 TRH _ _ (by rw[hu,hf]) (by simp),hf,hfs]
     have e4:=eqD_at (w:=w) 9997 x.2
     have p1:=part_D (w:=w) (Value.int .i64 x.1) bl
     generalize (bts x.2).map (Value.int .u8)=bs at*
     have p0:(part f0.type (Value.int .i64 x.1::bs).toArray f0.offset).run PP w= .ok (.int .i64 x.1) w:=part_int i0 (by rw[o0];rfl)
     have e3:=run_equalIn_int (P:=PP) w 9998 f0.type .i64 .i64 x.1 x.1 i0
     rw[←t1,←o1]at p1
     rw[←t1]at e4
     simp[Op.eqFields,n0,n1,p0,p1,e3,e4]
   · cases h
 · cases h
noncomputable abbrev fSH:Func:=fnOf PP 24
theorem e_sameH (hn:H.length≤1000):Pure PP 24 [slH H,slH H] (bo true):=by
 have ll:(H.map hdV).length=H.length:=List.length_map ..
 let X:Nat→St:=fun i=>at_ fSH [(0,slH H),(1,slH H),(5,ni i)] []
 have ne:((((H.map hdV).length:Int)) != (((H.map hdV).length:Int)))=false:=by simp
 refine pf (by kernel_rfl) (.to mo_ [] [0,1,5] [] 0 [na ne] (td':=lp fSH 0) (σ':=X 0) ?_ (by kernel_rfl))
 refine Gd.loop X (fun i=>i≤H.length) (fun i=>H.length - i) ?_ 0 (Nat.zero_le _)
 intro i hi ih
 by_cases h:i<H.length
 · have lt:decide ((i:Int)<((H.map hdV).length:Int))=true:=decide_eq_true (by omega)
   obtain⟨x,hx⟩:∃ x,H[i]? =some x:=⟨_,List.getElem?_eq_getElem h⟩
   have s1:=hd_at hx
   have eq:=eqH x
   exact .to mo_ [] [0,1,5] [] 0 [ye lt,.sel _ _ _ s1,.sel _ _ _ s1,.eqa _ _ _ _ eq,nf,inc 16 i (by omega)] (ih (i+1) h (by omega)) (by kernel_rfl)
 · have lt:decide ((i:Int)<((H.map hdV).length:Int))=false:=decide_eq_false (by omega)
   exact fi [na lt] (by kernel_rfl) (by kernel_rfl)
theorem sorted_mem (ha:Arc n L):q∈sorted L↔q∈L:=by
 refine⟨sorted_sub,fun h=> ?_⟩
 obtain⟨a,h1,h2,_⟩:=sorted_cov h
 rw[←ha.one (sorted_sub h1) h h2]
 exact h1
theorem sorted_self (ha:Arc n L) (h:L.Pairwise fun a b=>cmp2 a b<0):sorted L=L:=strict_eq cmp2_cmp (sorted_pw L) h fun a=>sorted_mem ha
end
end Go.Proofs.YtfdfbenejkmnlaaGreatDoor.E.Ca
namespace Go.Proofs.YtfdfbenejkmnlaaGreatDoor.E.Ca
open Go.RowKit Hs
set_option linter.unusedVariables false
set_option linter.unusedSimpArgs false
section
variable {b s t k w:Int} {R:List (Int×Int)}
theorem lit_g (hb: -2000≤b∧b≤2000) (hs: -2000≤s∧s≤2000) (ht: -2000≤t∧t≤2000) (hk: -2000≤k∧k≤2000) (hw: -2000≤w∧w≤2000) (hR:∀ p∈R,(-2000≤p.1∧p.1≤2000)∧(-2000≤p.2∧p.2≤2000)) (hl:R.length≤20):Sq ⟨b,s,t,k,R,zQ,w⟩∧FBits 100 (CQ.cm ⟨b,s,t,k,R,zQ,w⟩).fit:=by
 have f:(CQ.cm ⟨b,s,t,k,R,zQ,w⟩).fit=zF:=zQ_fm
 have fb:FB (CQ.cm ⟨b,s,t,k,R,zQ,w⟩):=by unfold FB;rw[f];exact zF_bits
 have g:G64 (CQ.cm ⟨b,s,t,k,R,zQ,w⟩):=⟨⟨sm64 (x:=b) hb,sm64 (x:=s) hs,sm64 (x:=t) ht,sm64 (x:=k) hk,sm64 (x:=w) hw⟩,fun p hp=>⟨sm64 (hR p hp).1,sm64 (hR p hp).2⟩,by rw[f];exact zF_64⟩
 exact⟨(gq_of g fb rfl hl).s,fb.up⟩
end
def ex1:CQ:=⟨1,0,1,0,[],zQ,3⟩
def ex2:CQ:=⟨0,0,2,3,[(1,0)],zQ,0⟩
def ex3:CQ:=⟨0,1,3,3,[(1,1)],zQ,0⟩
def exO:CQ:=⟨1,0,1,0,[],zQ,4⟩
def ne1:CQ:=⟨1,0,0,0,[],zQ,3⟩
def ne2:CQ:=⟨0,0,0,3,[(1,0)],zQ,0⟩
def ne3:CQ:=⟨0,0,0,3,[(1,1)],zQ,0⟩
def exL:List CQ:=[ex1,ex2]
theorem g_ex1:Sq ex1∧FBits 100 ex1.cm.fit:=lit_g (by omega) (by omega) (by omega) (by omega) (by omega) (fun p hp=>by cases hp) (by decide)
theorem g_exO:Sq exO∧FBits 100 exO.cm.fit:=lit_g (by omega) (by omega) (by omega) (by omega) (by omega) (fun p hp=>by cases hp) (by decide)
theorem g_ne1:Sq ne1∧FBits 100 ne1.cm.fit:=lit_g (by omega) (by omega) (by omega) (by omega) (by omega) (fun p hp=>by cases hp) (by decide)
theorem g_ex2:Sq ex2∧FBits 100 ex2.cm.fit:=lit_g (by omega) (by omega) (by omega) (by omega) (by omega) (fun p hp=>by rw[List.mem_singleton]at hp;subst hp;decide) (by decide)
theorem g_ne2:Sq ne2∧FBits 100 ne2.cm.fit:=lit_g (by omega) (by omega) (by omega) (by omega) (by omega) (fun p hp=>by rw[List.mem_singleton]at hp;subst hp;decide) (by decide)
theorem g_ne3:Sq ne3∧FBits 100 ne3.cm.fit:=lit_g (by omega) (by omega) (by omega) (by omega) (by omega) (fun p hp=>by rw[List.mem_singleton]at hp;subst hp;decide) (by decide)
theorem v_ex1:validI ex1.cm=0:=by
 show validI ⟨1,0,1,0,[],zQ.fm,3⟩=0
 rw[zQ_fm,v_0 rfl (by decide+kernel),zF_ok]
 decide
theorem v_exO:validI exO.cm=0:=by
 show validI ⟨1,0,1,0,[],zQ.fm,4⟩=0
 rw[zQ_fm,v_0 rfl (by decide+kernel),zF_ok]
 decide
theorem v_ex2:validI ex2.cm=0:=by
 show validI ⟨0,0,2,3,[(1,0)],zQ.fm,0⟩=0
 rw[zQ_fm,v_3 rfl (by decide+kernel),zF_ok]
 decide
theorem v_ex3:validI ex3.cm=0:=by
 show validI ⟨0,1,3,3,[(1,1)],zQ.fm,0⟩=0
 rw[zQ_fm,v_3 rfl (by decide+kernel),zF_ok]
 decide
theorem a_0:Arc 2 []:=Arc.nil (by omega)
theorem t_1:tkE 2 [] ex1=0∧tkF 2 [] ex1=true∧tkL 2 [] ex1=[ex1]:=tk_fresh a_0 v_ex1 (by decide) rfl (fun p hp=>by cases hp) (fun h=>absurd h (by decide)) (by decide)
theorem a_1:Arc 2 [ex1]:=by
 have:=tkL_arc a_0 g_ex1.1 g_ex1.2
 rw[t_1.2.2]at this
 exact this
theorem t_2:tkE 2 [ex1] ex2=0∧tkF 2 [ex1] ex2=true∧tkL 2 [ex1] ex2=exL:=tk_fresh a_1 v_ex2 (by decide) rfl (fun p hp=>by
 rw[show ex2.refs=[(1,0)]from rfl,List.mem_singleton]at hp
 subst hp
 exact⟨ex1,List.mem_singleton.2 rfl,rfl,by decide⟩) (fun h=>absurd h (by decide)) (by decide)
theorem a_2:Arc 2 exL:=by
 have:=tkL_arc a_1 g_ex2.1 g_ex2.2
 rw[t_2.2.2]at this
 exact this
theorem q_1:mkQ 2 [] ne1=ex1:=rfl
theorem q_2:mkQ 2 [ex1] ne2=ex2:=rfl
theorem q_3:mkQ 2 exL ne3=ex3:=rfl
theorem m_1:mkE 2 [] ne1=0∧mkL 2 [] ne1=[ex1]∧mkV 2 [] ne1=dQ ex1:=by
 have e:mkE 2 [] ne1=0:=(if_pos (by decide)).trans (by rw[q_1];exact t_1.1)
 exact⟨e,(if_pos e).trans (by rw[q_1];exact t_1.2.2),(if_pos e).trans (by rw[q_1])⟩
theorem m_2:mkE 2 [ex1] ne2=0∧mkL 2 [ex1] ne2=exL∧mkV 2 [ex1] ne2=dQ ex2:=by
 have e:mkE 2 [ex1] ne2=0:=(if_pos (by decide)).trans (by rw[q_2];exact t_2.1)
 exact⟨e,(if_pos e).trans (by rw[q_2];exact t_2.2.2),(if_pos e).trans (by rw[q_2])⟩
theorem t_3:tkE 2 exL ex3=10:=by
 unfold tkE
 rw[if_neg (by simp[v_ex3]),if_neg (by decide)]
 rw[show fnd exL ex3.cm.nm=none from rfl]
 exact if_pos (.inr rfl)
theorem m_3:mkE 2 exL ne3=10∧mkL 2 exL ne3=exL∧mkV 2 exL ne3=zlC:=by
 have e:mkE 2 exL ne3=10:=(if_pos (by decide)).trans (by rw[q_3];exact t_3)
 have n0:¬mkE 2 exL ne3=0:=by rw[e];decide
 exact⟨e,if_neg n0,if_neg n0⟩
theorem t_b:tkE 2 [] ex2=10:=by
 unfold tkE
 rw[if_neg (by simp[v_ex2]),if_neg (by decide)]
 rw[show fnd [] ex2.cm.nm=none from rfl]
 exact if_pos (.inr rfl)
theorem l_b:takL 2 [] [ex2,ex1] 0=([],0,10):=by
 rw[takL,if_neg (by rw[t_b];decide),t_b]
theorem t_o:tkE 2 exL exO=7:=by
 unfold tkE
 rw[if_neg (by simp[v_exO]),if_neg (by decide)]
 rw[show fnd exL exO.cm.nm=some ex1 from rfl]
 refine if_neg fun e=> ?_
 have:(3:Int)=4:=congrArg CQ.w e
 cases this
theorem l_o:takL 2 exL [exO] 0=(exL,0,7):=by
 rw[takL,if_neg (by rw[t_o];decide),t_o]
theorem s_ex:sorted exL=exL:=sorted_self a_2 (by
 refine List.pairwise_cons.2 ⟨fun b hb=> ?_,List.pairwise_singleton _ _⟩
 rw[List.mem_singleton]at hb
 subst hb
 decide)
theorem k_ex:clkP exL 2=2:=rfl
noncomputable def hx0:Int×DG:=(1,sumW [ex2])
noncomputable def hx1:Int×DG:=(1,sumW [ex1])
theorem h_ex:hdsL 2 exL=[hx0,hx1]:=rfl
abbrev hZ:List (Int×DG):=[(0,zD),(0,zD)]
theorem w_ex:wantE 2 exL hZ=0:=by
 unfold wantE
 rw[if_neg (by decide),if_neg (by
  rw[Bool.not_eq_true,List.any_eq_false]
  intro k hk
  have hx:hZ.getD k (0,zD)=(0,zD):=by
   match k with
   |0=>rfl
   |1=>rfl
   |k+2=>rfl
  rw[hx]
  unfold oddH
  simp only[Int.toNat_zero,List.take_zero]
  rw[show sumW []=zD from rfl,dgE_refl]
  simp)]
theorem kp_ex:kpt (knwn hZ) (sorted exL)=exL:=by rw[s_ex];rfl
theorem c_ex:chkE [ex1] hx1 1=0:=by
 have b0:badC [ex1] 1 0 ex1=false:=by
  unfold badC
  rw[v_ex1]
  rfl
 unfold chkE
 rw[if_neg (by decide),if_neg (by
  rw[Bool.not_eq_true]
  show(badC [ex1] 1 0 ex1||false)=false
  rw[b0]
  rfl),if_neg (by
  rintro (h|h)
  · exact h rfl
  · rw[show hx1.2=sumW [ex1]from rfl,dgE_refl]at h;cases h)]
end Go.Proofs.YtfdfbenejkmnlaaGreatDoor.E.Ca
namespace Go.Proofs.YtfdfbenejkmnlaaGreatDoor.E.Ca
open Go.RowKit Hs
set_option linter.unusedVariables false
set_option linter.unusedSimpArgs false
theorem lv_1:PureT PP 51 (hA_ (cnts 2 []) []) [.lp 2 0,.ag (dQ ne1)] (.io 3 (hA_ (cnts 2 [ex1]) [ex1]) (.tu [.ag (dQ ex1),ni 0])):=by
 have h:=e_makeA a_0 g_ne1.1 g_ne1.2
 rw[m_1.1,m_1.2.1,m_1.2.2]at h
 exact h
theorem lv_2:PureT PP 51 (hA_ (cnts 2 [ex1]) [ex1]) [.lp 2 0,.ag (dQ ne2)] (.io 3 (hA_ (cnts 2 exL) exL) (.tu [.ag (dQ ex2),ni 0])):=by
 have h:=e_makeA a_1 g_ne2.1 g_ne2.2
 rw[m_2.1,m_2.2.1,m_2.2.2]at h
 exact h
theorem lv_3:PureT PP 51 (hA_ (cnts 2 exL) exL) [.lp 2 0,.ag (dQ ne3)] (.io 3 (hA_ (cnts 2 exL) exL) (.tu [.ag zlC,ni 10])):=by
 have h:=e_makeA a_2 g_ne3.1 g_ne3.2
 rw[m_3.1,m_3.2.1,m_3.2.2]at h
 exact h
theorem lv_4:PureT PP 21 (hA_ (cnts 2 exL) exL) [.lp 2 0] (.io 3 (hC_ (cnts 2 exL) exL [hdV hx0,hdV hx1]) (.ow 3)):=by
 have h:=e_heads a_2
 rw[h_ex]at h
 exact h
theorem lv_5:PureT PP 10 (hA_ (cnts 2 exL) exL) [.lp 2 0] (.io 3 (hD_ (cnts 2 exL) exL (allP exL 2) exL) (.ow 4)):=by
 have h:=e_claims a_2 (M:=exL) fun p=>rfl
 rw[s_ex]at h
 exact h
theorem lv_6:PW (cnts 2 exL) exL hZ (wR (cnts 2 exL) exL exL):=by
 have h:=e_want0 a_2 (H:=hZ) (by decide) w_ex
 rw[kp_ex]at h
 exact h
theorem lv_7:PureT PP 22 (hA_ (cnts 2 []) []) [.lp 2 0,slQ [ex2,ex1]] (.io 3 (hA_ (cnts 2 []) []) (.tu [ni 0,ni 10])):=by
 have h:=e_takeL a_0 (l:=[ex2,ex1]) (fun c hc=>by
  simp only[List.mem_cons,List.not_mem_nil,or_false]at hc
  rcases hc with rfl|rfl
  · exact g_ex2
  · exact g_ex1) (by decide)
 rw[l_b]at h
 exact h
theorem lv_8:PureT PP 22 (hA_ (cnts 2 []) []) [.lp 2 0,slQ exL] (.io 3 (hA_ (cnts 2 exL) exL) (.tu [ni 2,ni 0])):=by
 have h:=e_takeL a_0 (l:=exL) (fun c hc=>⟨a_2.sq c hc,a_2.fb c hc⟩) (by decide)
 rw[takL_all a_2]at h
 exact h
theorem lv_9:PureT PP 22 (hA_ (cnts 2 exL) exL) [.lp 2 0,slQ [exO]] (.io 3 (hA_ (cnts 2 exL) exL) (.tu [ni 0,ni 7])):=by
 have h:=e_takeL a_2 (l:=[exO]) (fun c hc=>by rw[List.mem_singleton]at hc;subst hc;exact g_exO) (by decide)
 rw[l_o]at h
 exact h
theorem lv_a:PureT PP 52 (hA_ (cnts 2 exL) exL) [.lp 2 0] (.io 3 (hA_ (cnts 2 exL) exL) (ni 2)):=by
 have h:=e_clock a_2
 rw[k_ex]at h
 exact h
theorem lv_b:Pure PP 53 [slQ [ex1],.ag (hdV hx1),ni 1] (ni 0):=by
 have h:=e_check (l:=[ex1]) (x:=hx1) (by_:=1) (fun q hq=>by rw[List.mem_singleton]at hq;subst hq;exact g_ex1) (by decide)
 rw[c_ex]at h
 exact h
theorem lv_c:PureT PP 25 (hA_ (cnts 2 exL) exL) [.lp 2 0] (.io 3 (hA_ (cnts 2 exL) exL) (slH [hx0,hx1])):=by
 have h:=e_lheads a_2
 rw[h_ex]at h
 exact h
def zrow:List Value:=Value.int .i64 0::List.replicate 16 (Value.int .u8 0)
def zc2:Array Value:=(zrow++zrow).toArray
def mkMs (T:TypeId) (xs:List Operand):Op:= .makeSlice T (xs.getD 0 (.tmp 0)) (xs.getD 1 (.tmp 0))
theorem run_ms (w:World):(Instr.makeSlice THs (.int .i64 2) (.int .i64 2)).run PP w= .ok (.slice (some ⟨w.heap.size,0,none⟩) 2 2) (w.alloc (.cells zc2 THd)):=by kernel_rfl
/-- Two heads of nothing. -/
theorem x_ms:Ext PP (mkMs THs) [ni 2,ni 2] [] [] (slH hZ):=by
 intro B M h m w a o xs ho K hl hr _ _
 obtain⟨x,y,rfl⟩:=two_of hl
 have hx:=Rep.k_inv (hr 0 x _ rfl rfl)
 have hy:=Rep.k_inv (hr 1 y _ rfl rfl)
 simp only[mkMs,List.getD_cons_zero,List.getD_cons_succ]at ho
 have hb:Go.RowKit.Below w.heap.size w (w.alloc (.cells zc2 THd)):=(Go.RowKit.Below.refl _ _).alloc (Nat.le_refl _) _
 have hg:(w.alloc (.cells zc2 THd)).heap[w.heap.size]? =some (.cells zc2 THd (0,0)):=by show(w.heap.push _)[w.heap.size]? =_;simp
 have at_:∀ (i j:Nat) (cs:List V) (v:V),(hZ.map hdV)[i]? =some cs→cs[j]? =some v→j<17∧i<2∧v= .k (zrow.getD j undef):=fun i j cs v hi hj=>by
  have e:cs=zrow.map V.k:=by
   match i with
   |0=>injection hi with hi;rw[←hi];rfl
   |1=>injection hi with hi;rw[←hi];rfl
   |i+2=>simp at hi
  have hi2:i<2:=by have:=(List.getElem?_eq_some_iff.1 hi).1;simpa using this
  subst e
  rw[List.getElem?_map]at hj
  cases hz:zrow[j]? with
  |none=>rw[hz]at hj;cases hj
  |some u=>
   rw[hz]at hj
   injection hj with hj
   refine⟨?_,hi2, ?_⟩
   · have:=(List.getElem?_eq_some_iff.1 hz).1;simpa[zrow]using this
   · rw[List.getD_eq_getElem?_getD,hz,←hj];rfl
 have zc:∀ i j:Nat,i<2→j<17→zc2[i*17+j]? =some (zrow.getD j undef):=fun i j hi hj=>by
  have zl:zrow.length=17:=rfl
  unfold zc2
  rw[List.getElem?_toArray]
  match i,hi with
  |0,_=>rw[List.getElem?_append_left (by omega),List.getD_eq_getElem?_getD,show 0*17+j=j by omega,List.getElem?_eq_getElem (by omega)];rfl
  |1,_=>rw[List.getElem?_append_right (by omega),List.getD_eq_getElem?_getD,show 1*17+j - zrow.length=j by omega,List.getElem?_eq_getElem (by omega)];rfl
 refine Exec.val (u:= .slice (some ⟨w.heap.size,0,none⟩) 2 2) (w':=w.alloc (.cells zc2 THd)) ?_ ⟨m,K.call hb, ?_,.call hb,Bl.of hb K.bs,fun b hb=> .inl hb⟩
 · simp[execOp,ho,hx,hy,run_ms]
 · refine Rep.sl m (some ⟨w.heap.size,0,none⟩) w.heap.size 0 2 17 (hZ.map hdV) (fun i j=>zrow.getD j undef) (Nat.le_refl _) (by decide) (fun _=>⟨rfl,fun e=>Nat.lt_irrefl _ (K.av_lt e),⟨_,_,_,hg⟩⟩) (fun cs hcs=> ?_) (fun i j cs v hi hj=> ?_) (fun i j cs v hi hj=> ?_)
   · obtain⟨p,hp,rfl⟩:=List.mem_map.1 hcs
     rfl
   · obtain⟨h1,h2,_⟩:=at_ i j cs v hi hj
     have:=zc i j h2 h1
     simp only[World.cell?,hg]
     rw[show 0+i*17+j=i*17+j by omega]
     exact this
   · obtain⟨_,_,h3⟩:=at_ i j cs v hi hj
     rw[h3]
     exact .k _ _
/-- **The documented example.** -/
theorem e_lives40:Pure PP 16 [] (bo true):=tr [.lend _ _ _ _ [] (e_newN (n:=2) (by decide)),nf,pnA 32 2,nf,.lend _ _ _ _ [0,1,2] lv_1,.ro,.lend _ _ _ _ [0,1,2] lv_2,.ro,.lend _ _ _ _ [0,1,2] lv_3,.lend _ _ _ _ [0,1,2] lv_4,.lend _ _ _ _ [0,1,2] lv_5,.ext (some 62) _ _ _ _ _ x_ms,.lend _ _ _ _ [0,1,2] lv_6,.lend _ _ _ _ [] (e_newN (n:=2) (by decide)),nf,nf,nf,nf,nf,pnA 90 13,nf,nf,nf,nf,.ro,.lend _ _ _ _ [11,12,13] lv_7,.lend _ _ _ _ [11,12,13] lv_8,.ro,.lend _ _ _ _ [11,12,13] lv_9,yt,yt,yt,yt,.sel [hdV hx0,hdV hx1] 0 (hdV hx0) rfl,.sel [hdV hx0,hdV hx1] 0 (hdV hx0) rfl,yt,.sel [hdV hx0,hdV hx1] 1 (hdV hx1) rfl,.sel [hdV hx0,hdV hx1] 1 (hdV hx1) rfl,yt,.lend _ _ _ _ [0,1,2] lv_a,cl (e_sameAll exL),yt,cl (e_sameAll exL),yt,.lend _ _ _ _ [11,12,13] lv_c,.lend _ _ _ _ [0,1,2] lv_c,cl (e_sameH (H:=[hx0,hx1]) (by decide)),yt,yt,yt,yt,yt,yt,yt,yt,.sel [hdV hx0,hdV hx1] 1 (hdV hx1) rfl,.sel [hdV hx0,hdV hx1] 1 (hdV hx1) rfl,cl lv_b] (by kernel_rfl)
end Go.Proofs.YtfdfbenejkmnlaaGreatDoor.E.Ca
namespace Go.Proofs.YtfdfbenejkmnlaaGreatDoor.E.Ca
open Go.RowKit Hs
set_option linter.unusedVariables false
set_option linter.unusedSimpArgs false
section
variable {L C:List CQ} {p:Int×Int} {q r c:CQ} {b t nn mm how x y:Int} {i j k m n:Nat} {l:List Int}
theorem Sq.g64 (h:Sq q):G64 q.cm:=by
 have hh:=h.h
 have hf:=h.f
 simp only[hdQ,FQ.wh,List.mem_cons,List.not_mem_nil,or_false]at hh hf
 exact⟨⟨hh _ (.inl rfl),hh _ (.inr (.inl rfl)),hh _ (.inr (.inr (.inl rfl))),hh _ (.inr (.inr (.inr (.inl rfl)))),hh _ (.inr (.inr (.inr (.inr rfl))))⟩,h.r,hf _ (.inl rfl),hf _ (.inr (.inl rfl)),hf _ (.inr (.inr (.inl rfl))),hf _ (.inr (.inr (.inr (.inl rfl)))),hf _ (.inr (.inr (.inr (.inr rfl))))⟩
/-- A claim with one thing changed. -/
theorem odd_gen (h:Sq q) (hf:FBits 100 q.cm.fit) (hl:q.refs.length≤19) (hy:W.Is64 y) (x:Int):∃ p:CQ,oddF q.cm x y=p.cm∧Sq p∧FBits 100 p.cm.fit∧p.refs.length≤q.refs.length+1:=by
 obtain⟨p,e⟩:=odd_q (q:=q) x y
 have g:=odd_64 h.g64 hy x
 have f:=FB.odd (c:=q.cm) hf x hy
 have l1:=odd_len (c:=q.cm) (n:=y) x
 rw[e]at g f l1
 have l2:p.refs.length≤q.refs.length+1:=l1
 exact⟨p,e,(gq_of g f rfl (by omega)).s,f,l2⟩
theorem e_oddQ (h:Sq q) (hf:FBits 100 q.cm.fit) (hl:q.refs.length≤19) (hx:W.Is64 x) (hy:W.Is64 y):∃ p:CQ,Sq p∧FBits 100 p.cm.fit∧p.refs.length≤q.refs.length+1∧Pure PP 30 [.ag (dQ q),ni x,ni y] (.ag (dQ p)):=by
 obtain⟨p,e,h1,h2,h3⟩:=odd_gen h hf hl hy (rnd x 11)
 have o:=e_odd (c:=q.cm) (how:=x) (n:=y) (by show q.refs.length≤100;omega) hx hy
 rw[e]at o
 exact⟨p,h1,h2,h3,o⟩
theorem sq_head (h:Sq q) {s t:Int} (hs:W.Is64 s) (ht:W.Is64 t):Sq {q with seq:=s,tick:=t}:=by
 have hh:=h.h
 refine⟨fun x hx=> ?_,h.r,h.f,h.q,h.n⟩
 simp only[hdQ,List.mem_cons,List.not_mem_nil,or_false]at hx hh
 rcases hx with rfl|rfl|rfl|rfl|rfl
 · exact hh _ (.inl rfl)
 · exact hs
 · exact ht
 · exact hh _ (.inr (.inr (.inr (.inl rfl))))
 · exact hh _ (.inr (.inr (.inr (.inr rfl))))
theorem takL_arc:∀ (l L:List CQ) (m:Int),Arc n L→(∀ c∈l,Sq c∧FBits 100 c.cm.fit)→Arc n (takL n L l m).1
 |[],L,m,ha,_=>ha
 |c::r,L,m,ha,hc=>by
  rw[takL]
  split
  · exact takL_arc r _ _ (tkL_arc ha (hc c (List.mem_cons_self ..)).1 (hc c (List.mem_cons_self ..)).2) fun x hx=>hc x (List.mem_cons_of_mem _ hx)
  · exact ha
abbrev PNx (n:Nat) (L:List CQ) (b nn mm how:Int) (q:CQ):Prop:=Pure PP 7 [.ag (aR n L),ni b,ni nn,ni mm,ni how] (.ag (dQ q))
theorem apN_R {b j:Nat} (hbj:b<j) (A B:List (Int×Int)) (hn:(A++B).length≤1000):Ext PP (mkAq 30) [.ow b,.sl (rfs B)] [(b,.rw 54 2 (rfs A))] [(j,.rw 54 2 (rfs (A++B))),(b,.dead)] (.ow j):=
 x_apw (e:= 54) (n:=2) (bytes:=16) (N:=1000) (by kernel_rfl) (by kernel_rfl) hbj (rfs_app A B) (by rw[rfs_len];exact hn) (by kernel_rfl) (rfs_two B)
theorem apN_Z {b j:Nat} (hbj:b<j) (A B:List (Int×Int)) (hn:(A++B).length≤1000):Ext PP (mkAq 30) [.ow b,.sl (rfs B)] [(b,.rw 54 2 (rfs A))] [(j,.dead),(b,.dead)] (.sl (rfs (A++B))):=
 x_apz (e:= 54) (n:=2) (bytes:=16) (N:=1000) (by kernel_rfl) (by kernel_rfl) hbj (rfs_app A B) (by rw[rfs_len];exact hn) (by kernel_rfl) (rfs_two B)
/-- Next: some claim. -/
theorem e_next (ha:Arc n L) (hb:0≤b∧b≤100) (hn:W.Is64 nn) (hm:W.Is64 mm) (hh:W.Is64 how):∃ q:CQ,Sq q∧FBits 100 q.cm.fit∧q.refs.length≤6∧PNx n L b nn mm how q:=by
 have hL:L.length≤1000:=by have:=ha.len;omega
 have cn:=e_content ha (b:=b) hn hm
 obtain⟨g1,g2⟩:=cnt_g ha (b:=b) (sm64 (by omega)) nn mm
 have cl4:(cntQ n L b nn mm).refs.length≤4:=by
  rcases(ctQ_by (b:=b) (kd:=rnd nn 3) (w:=1+rnd mm 8) (R:=ctR n L nn mm) (fitQ (nine nn mm) 0)).2 with h|h
  · show(ctQ b (rnd nn 3) (1+rnd mm 8) (ctR n L nn mm) (fitQ (nine nn mm) 0)).refs.length≤4
    rw[h];exact Nat.zero_le _
  · show(ctQ b (rnd nn 3) (1+rnd mm 8) (ctR n L nn mm) (fitQ (nine nn mm) 0)).refs.length≤4
    rw[h];exact ctR_len ha nn mm
 generalize cntQ n L b nn mm=c at*
 have ch:=e_rchain (n:=n) (b:=b) hL
 have clen:=chn_le L b
 have e20:ni (((chn L b).map dQ).length:Int)=ni ((chn L b).length:Int):=by rw[List.length_map]
 have ck:=e_rclock (n:=n) (L:=L) hL
 have ckb:=clk_le ha n
 rw[←clk_eq ha]at ckb
 have a3:=e_around hm 2
 have r3:=rnd_in mm 2
 have ah:=e_around hh 9
 have rh:=rnd_in how 9
 generalize (chn L b).length=s at*
 generalize rclk L=T at*
 generalize rnd mm 2=r at*
 obtain⟨T',hT⟩:∃ T':Nat,T=(T':Int):=⟨T.toNat,by omega⟩
 subst hT
 have sq1:Sq {c with seq:=(s:Int),tick:=(T':Int)+1+r}:=sq_head g1 (by unfold W.Is64;omega) (by unfold W.Is64;omega)
 unfold PCn at cn
 unfold PNx
 unfold aR slQ at*
 generalize (chn L b).map dQ=CC at*
 generalize L.map dQ=LL at*
 let F0:List F_:=[cl cn,cl ch,.eqv 20 _ _ e20,cl ck,wq 24 ((T':Int)+1) ((T':Int)+1) (by omega),cl a3,wq 27 ((T':Int)+1+r) ((T':Int)+1+r) (by omega),cl ah]
 generalize rnd how 9=h at*
 by_cases h0:h=0
 · subst h0
   have a4:=e_around hm T'
   have r4:=rnd_in mm T'
   generalize rnd mm T'=u at*
   exact⟨{c with seq:=(s:Int),tick:=u},sq_head g1 (by unfold W.Is64;omega) (by unfold W.Is64;omega),g2,by show c.refs.length≤6;omega,tr (F0++[yt,cl ck,wq 36 ((T':Int)+1) ((T'+1:Nat):Int) (by omega),cl a4]) (by kernel_rfl)⟩
 by_cases h1:h=1
 · subst h1
   have a4:=e_around hm (s+1)
   have r4:=rnd_in mm (s+1)
   generalize rnd mm (s+1)=u at*
   exact⟨{c with seq:=u,tick:=(T':Int)+1+r},sq_head g1 (by unfold W.Is64;omega) (by unfold W.Is64;omega),g2,by show c.refs.length≤6;omega,tr (F0++[nf,yt,wq 44 ((s:Int)+2) ((s+1+1:Nat):Int) (by omega),cl a4]) (by kernel_rfl)⟩
 by_cases h2:h=2
 · subst h2
   have a4:=e_around hm 8
   have r4:=rnd_in mm 8
   have d10:=div64 hh (show(0:Int)<10 by decide)
   obtain⟨p,p1,p2,p3,p4⟩:=e_oddQ (q:={c with seq:=(s:Int),tick:=(T':Int)+1+r}) sq1 g2 (by show c.refs.length≤19;omega) d10 (y:=rnd mm 8 - 1) (by unfold W.Is64;omega)
   have p3:p.refs.length≤c.refs.length+1:=p3
   generalize rnd mm 8=u at*
   exact⟨p,p1,p2,by omega,tr (F0++[nf,nf,yt,eq64 51 _ d10,cl a4,wq 54 (u - 1) (u - 1) (by omega),cl p4]) (by kernel_rfl)⟩
 by_cases h3:h=3
 · subst h3
   have w1:=apN_R (b:=3) (j:=4) (by omega) [] c.refs (by rw[List.nil_append];omega)
   rw[List.nil_append]at w1
   have w2:=apN_Z (b:=4) (j:=6) (by omega) c.refs [(4,199)] (by rw[List.length_append];simp only[List.length_cons,List.length_nil];omega)
   refine⟨{c with seq:=(s:Int),tick:=(T':Int)+1+r,refs:=c.refs++[(4,199)]},⟨sq1.h,fun p hp=> ?_,g1.f,g1.q, ?_⟩,g2, ?_,tr (F0++[nf,nf,nf,yt,.eqv 58 (.ow 3) (.ow 3) rfl,.ext (some 61) _ _ _ _ _ w1,.ro,.ext (some 64) _ _ _ _ _ w2]) (by kernel_rfl)⟩
   · rcases List.mem_append.1 hp with hp|hp
     · exact g1.r p hp
     · rw[List.mem_singleton]at hp
       subst hp
       exact⟨sm64 (by decide),sm64 (by decide)⟩
   · show(c.refs++[(4,199)]).length≤20
     rw[List.length_append];simp only[List.length_cons,List.length_nil];omega
   · show(c.refs++[(4,199)]).length≤6
     rw[List.length_append];simp only[List.length_cons,List.length_nil];omega
 · have n0:(h==0)=false:=by simpa using h0
   have n1:(h==1)=false:=by simpa using h1
   have n2:(h==2)=false:=by simpa using h2
   have n3:(h==3)=false:=by simpa using h3
   exact⟨{c with seq:=(s:Int),tick:=(T':Int)+1+r},sq1,g2,by show c.refs.length≤6;omega,tr (F0++[na n0,na n1,na n2,na n3]) (by kernel_rfl)⟩
end
end Go.Proofs.YtfdfbenejkmnlaaGreatDoor.E.Ca
namespace Go.Proofs.YtfdfbenejkmnlaaGreatDoor
open Go.RowKit
theorem is64_of {n:Int} (h:(Lit.int .i64 n).wf=true):W.Is64 n:=by
 have:=bounds_i64 h
 unfold W.Is64
 omega
end Go.Proofs.YtfdfbenejkmnlaaGreatDoor
namespace Go.Proofs.YtfdfbenejkmnlaaGreatDoor.E
open Go.RowKit
set_option linter.unusedVariables false
theorem cb_of {w:World} {b o:Nat} {v:Value} (h:w.cell? ⟨b,o,none⟩=some v):CB w b:=by
 unfold World.cell? at h
 split at h
 · rename_i cs T fr hb
   exact⟨cs,T,fr,hb⟩
 · cases h
def Rt (X:World→Value→Prop) (w:World) (e:Ending) (w':World):Prop:=∃ v,e= .returned v∧X w' v∧Below w.heap.size w w'
theorem back {P:Program} {f:FuncId} {ds:List V} {d:V} (h:Pure P f ds d) {w:World} {args:Array Value} (ha:Reps w (fun _=>False) no args ds):Calls P f args w (Rt (fun w v=>Rep w (fun _=>False) no v d) w):=
 (h.2 w (fun _=>False) args (fun _ h=>h.elim) ha).mono fun e w' h=>h
theorem to_tt {w w':World} {e:Ending} (h:Rt (fun w v=>Rep w (fun _=>False) no v (bo true)) w e w'):e= .returned (.bool true)∧Below w.heap.size w w':=by
 obtain⟨v,rfl,h1,h2⟩:=h
 exact⟨by rw[Rep.k_inv h1],h2⟩
/-- A law of any arguments. -/
theorem lawG {f:FuncId} {us:List Value} {ds:List V} {w:World} (h:Pure PP f ds (bo true)) (hg:Glo w (fun _=>False)) (hl:us.length=ds.length) (hr:∀ j,j<ds.length→Rep w (fun _=>False) no (us.getD j undef) (ds.getD j .un)):
    Calls PP f us.toArray w fun e w'=>e= .returned (.bool true)∧Below w.heap.size w w':=
 (back h (reps_of hl hg hr)).mono fun _ _=>to_tt
theorem all2 {p:Nat→Prop} (h0:p 0) (h1:p 1):∀ j,j<2→p j:=fun j hj=>by
 match j,hj with
 |0,_=>exact h0
 |1,_=>exact h1
theorem all3 {p:Nat→Prop} (h0:p 0) (h1:p 1) (h2:p 2):∀ j,j<3→p j:=fun j hj=>by
 match j,hj with
 |0,_=>exact h0
 |1,_=>exact h1
 |2,_=>exact h2
end Go.Proofs.YtfdfbenejkmnlaaGreatDoor.E
