/-
 ARCHIVES: the documented example's calls.
-/
import Derived.Test.YtmgagedefmmloaaGreatDoorDpA
namespace Go.Proofs.YtmgagedefmmloaaGreatDoor.E.Ca
open Go.RowKit Hs
set_option linter.unusedVariables false
set_option linter.unusedSimpArgs false
section
variable {L C:List CQ} {R:List (Int×Int)} {p:Int×Int} {q r c:CQ} {b kd nn mm s t w:Int} {i j k m n:Nat}
theorem div64 {x:Int} (h:W.Is64 x) {d:Int} (hd:0<d):W.Is64 (x.tdiv d):=by
 unfold W.Is64 at h⊢
 by_cases hx:x<0
 · have h1:x.tdiv d= -((-x).tdiv d):=by rw[Int.neg_tdiv,Int.neg_neg]
   have h2:0≤(-x).tdiv d:=Int.tdiv_nonneg (by omega) (by omega)
   have h3:(-x).tdiv d≤ -x:=Int.tdiv_le_self _ (by omega)
   omega
 · have h2:0≤x.tdiv d:=Int.tdiv_nonneg (by omega) (by omega)
   have h3:x.tdiv d≤x:=Int.tdiv_le_self _ (by omega)
   omega
def nine (n m:Int):List Int:=[n,m,n.tdiv 3,m.tdiv 3,n.tdiv 9,m.tdiv 9,n.tdiv 27,m.tdiv 27,n.tdiv 81]
theorem nine64 (hn:W.Is64 nn) (hm:W.Is64 mm):∀ x∈nine nn mm,W.Is64 x:=fun x hx=>by
 simp only[nine,List.mem_cons,List.not_mem_nil,or_false]at hx
 rcases hx with rfl|rfl|rfl|rfl|rfl|rfl|rfl|rfl|rfl
 · exact hn
 · exact hm
 all_goals first|exact div64 hn (by omega)|exact div64 hm (by omega)
/-- The content, by what was drawn. -/
def ctQ (b kd w:Int) (R:List (Int×Int)) (f:FQ):CQ:=if kd=0∨R=[]∨(kd=2∧R.length<2)then⟨b,0,0,0,[],zQ,w⟩else if kd=1 then⟨b,0,0,1,R,f,0⟩else⟨b,0,0,kd,R,zQ,0⟩
def ctR (n:Nat) (L:List CQ) (nn mm:Int):List (Int×Int):=nmsF n L (1+(rnd mm 4095).toNat) (1+(rnd (nn.tdiv 4) 3).toNat)
def cntQ (n:Nat) (L:List CQ) (b nn mm:Int):CQ:=ctQ b (rnd nn 3) (1+rnd mm 8) (ctR n L nn mm) (fitQ (nine nn mm) 0)
abbrev PCn (n:Nat) (L:List CQ) (b nn mm:Int) (q:CQ):Prop:=Pure PP 12 [.ag (aR n L),ni b,ni nn,ni mm] (.ag (dQ q))
theorem dQ_z:dQ ⟨b,0,0,0,[],zQ,w⟩=dC ⟨b,0,0,0,[],zF,w⟩:=by unfold dQ CQ.cm;rw[zQ_fm]
theorem dQ_zk:dQ ⟨b,0,0,kd,R,zQ,0⟩=dC ⟨b,0,0,kd,R,zF,0⟩:=by unfold dQ CQ.cm;rw[zQ_fm]
theorem e_content (ha:Arc n L) (hn:W.Is64 nn) (hm:W.Is64 mm):PCn n L b nn mm (cntQ n L b nn mm):=by
 have a1:=e_around hn 3
 have a2:=e_around hm 8
 have a3:=e_around hm 4095
 have a4:=e_around (div64 hn (show(0:Int)<4 by decide)) 3
 have r1:=rnd_in nn 3
 have r2:=rnd_in mm 8
 have r3:=rnd_in mm 4095
 have r4:=rnd_in (nn.tdiv 4) 3
 have nm:=e_names ha (bits:=1+(rnd mm 4095).toNat) (most:=1+(rnd (nn.tdiv 4) 3).toNat) (by omega) (by omega)
 have ft:=e_fit (nine64 hn hm) 0 (by omega)
 have q4:=div64 hn (show(0:Int)<4 by decide)
 have d3:=div64 hn (show(0:Int)<3 by decide)
 have e3:=div64 hm (show(0:Int)<3 by decide)
 have d9:=div64 hn (show(0:Int)<9 by decide)
 have e9:=div64 hm (show(0:Int)<9 by decide)
 have d27:=div64 hn (show(0:Int)<27 by decide)
 have e27:=div64 hm (show(0:Int)<27 by decide)
 have d81:=div64 hn (show(0:Int)<81 by decide)
 unfold PCn cntQ ctR
 generalize nmsF n L (1+(rnd mm 4095).toNat) (1+(rnd (nn.tdiv 4) 3).toNat)=R at*
 have lR:=rfs_len R
 let F0:List F_:=[cl a1,cl a2,wq 16 (1+rnd mm 8) (1+rnd mm 8) (by omega),cl a3,wq 21 (1+rnd mm 4095) ((1+(rnd mm 4095).toNat:Nat):Int) (by omega),eq64 23 (nn.tdiv 4) q4,cl a4,wq 25 (1+rnd (nn.tdiv 4) 3) ((1+(rnd (nn.tdiv 4) 3).toNat:Nat):Int) (by omega),cl nm]
 have e41:ni ((rfs R).length:Int)=ni (R.length:Int):=by rw[lR]
 generalize fitQ (nine nn mm) 0=f at*
 generalize 1+rnd mm 8=w at*
 generalize rnd nn 3=kd at*
 have hk:kd=0∨kd=1∨kd=2∨kd=3:=by omega
 by_cases hR:R=[]
 · have e:ctQ b kd w R f=⟨b,0,0,0,[],zQ,w⟩:=if_pos (.inr (.inl hR))
   rw[e,dQ_z]
   subst hR
   rcases hk with rfl|rfl|rfl|rfl
   · exact tr (F0++[yt,yt,yt]) (by kernel_rfl)
   · exact tr (F0++[nf,yt,yt]) (by kernel_rfl)
   · exact tr (F0++[nf,yt,yt]) (by kernel_rfl)
   · exact tr (F0++[nf,yt,yt]) (by kernel_rfl)
 · have hl:0<R.length:=List.length_pos_iff.2 hR
   have n0:((R.length:Int)==0)=false:=by
    have:(R.length:Int)≠0:=by omega
    simpa using this
   rcases hk with rfl|rfl|rfl|rfl
   · have e:ctQ b 0 w R f=⟨b,0,0,0,[],zQ,w⟩:=if_pos (.inl rfl)
     rw[e,dQ_z]
     exact tr (F0++[yt,yt,yt]) (by kernel_rfl)
   · have e:ctQ b 1 w R f=⟨b,0,0,1,R,f,0⟩:=(if_neg (fun h=>by rcases h with h|h|h;cases h;exact hR h;cases h.1)).trans (if_pos rfl)
     rw[e]
     exact tr (F0++[nf,.eqv 32 _ _ e41,na n0,nf,nf,yt,eq64 56 _ d3,eq64 58 _ e3,eq64 60 _ d9,eq64 62 _ e9,eq64 64 _ d27,eq64 66 _ e27,eq64 68 _ d81,.ro,cl ft]) (by kernel_rfl)
   · by_cases h2:R.length<2
     · have e:ctQ b 2 w R f=⟨b,0,0,0,[],zQ,w⟩:=if_pos (.inr (.inr ⟨rfl,h2⟩))
       rw[e,dQ_z]
       exact tr (F0++[nf,.eqv 32 _ _ e41,na n0,yt,.eqv 41 _ _ e41,ye (t:=decide ((R.length:Int)<2)) (decide_eq_true (by omega))]) (by kernel_rfl)
     · have e:ctQ b 2 w R f=⟨b,0,0,2,R,zQ,0⟩:=(if_neg (fun h=>by rcases h with h|h|h;cases h;exact hR h;exact h2 h.2)).trans (if_neg (by decide))
       rw[e,dQ_zk]
       exact tr (F0++[nf,.eqv 32 _ _ e41,na n0,yt,.eqv 41 _ _ e41,na (t:=decide ((R.length:Int)<2)) (decide_eq_false (by omega)),nf]) (by kernel_rfl)
   · have e:ctQ b 3 w R f=⟨b,0,0,3,R,zQ,0⟩:=(if_neg (fun h=>by rcases h with h|h|h;cases h;exact hR h;cases h.1)).trans (if_neg (by decide))
     rw[e,dQ_zk]
     exact tr (F0++[nf,.eqv 32 _ _ e41,na n0,nf,nf,nf]) (by kernel_rfl)
end
end Go.Proofs.YtmgagedefmmloaaGreatDoor.E.Ca
namespace Go.Proofs.YtmgagedefmmloaaGreatDoor.E.Ca
open Go.RowKit Hs
set_option linter.unusedVariables false
set_option linter.unusedSimpArgs false
section
variable {L C:List CQ} {R:List (Int×Int)} {p:Int×Int} {q r c:CQ} {b kd nn mm s t w:Int} {i j k m n:Nat} {l:List Int}
theorem FBits.up {f:FM} (h:FBits 100 f):FBits 100 f:=fun n hn=>⟨fun hc=>I.Bd.mono ((h n hn).1 hc) (by omega),fun hc=>I.Bd.mono ((h n hn).2 hc) (by omega)⟩
theorem fitQ_64 (l:List Int) (i:Nat):W.Is64 (fitQ l i).fm.a∧W.Is64 (fitQ l i).fm.b∧W.Is64 (fitQ l i).fm.ea∧W.Is64 (fitQ l i).fm.eb∧W.Is64 (fitQ l i).fm.many:=by
 have h1:=atz_in l i 2
 have h2:=atz_in l (i+1) 1
 have h3:=atz_in l (i+2) 11
 have h4:=atz_in l (i+3) 11
 have h5:=atz_in l (i+4) 2
 refine⟨sm64 (x:=atz l i 2) (by omega),sm64 (x:=atz l i 2+1+atz l (i+1) 1) (by omega),sm64 (x:=atz l (i+2) 11) (by omega),sm64 (x:=atz l (i+3) 11) (by omega),sm64 (x:=1+atz l (i+4) 2) (by omega)⟩
theorem ctQ_g (hb:W.Is64 b) (hw:0≤w∧w≤100) (hk:0≤kd∧kd≤3) (hR:∀ p∈R,W.Is64 p.1∧W.Is64 p.2) (l:List Int):G64 (ctQ b kd w R (fitQ l 0)).cm∧FB (ctQ b kd w R (fitQ l 0)).cm:=by
 have zz:G64 (CQ.cm ⟨b,0,0,0,[],zQ,w⟩):=⟨⟨hb,z64,z64,z64,sm64 (x:=w) (by omega)⟩,fun p hp=>(by simp[CQ.cm]at hp),by rw[show(CQ.cm ⟨b,0,0,0,[],zQ,w⟩).fit=zF from zQ_fm];exact zF_64⟩
 have zf:FB (CQ.cm ⟨b,0,0,0,[],zQ,w⟩):=by unfold FB;rw[show(CQ.cm ⟨b,0,0,0,[],zQ,w⟩).fit=zF from zQ_fm];exact zF_bits
 unfold ctQ
 split
 · exact⟨zz,zf⟩
 · split
   · exact⟨⟨⟨hb,z64,z64,sm64 (x:=1) (by omega),z64⟩,hR,fitQ_64 l 0⟩,fit_bits l 0⟩
   · refine⟨⟨⟨hb,z64,z64,sm64 (x:=kd) (by omega),z64⟩,hR, ?_⟩, ?_⟩
     · rw[show(CQ.cm ⟨b,0,0,kd,R,zQ,0⟩).fit=zF from zQ_fm];exact zF_64
     · unfold FB;rw[show(CQ.cm ⟨b,0,0,kd,R,zQ,0⟩).fit=zF from zQ_fm];exact zF_bits
theorem ctQ_by (f:FQ):(ctQ b kd w R f).by_=b∧((ctQ b kd w R f).refs=[]∨(ctQ b kd w R f).refs=R):=by
 unfold ctQ
 split
 · exact⟨rfl,.inl rfl⟩
 · split
   · exact⟨rfl,.inr rfl⟩
   · exact⟨rfl,.inr rfl⟩
theorem ctQ_len (f:FQ) (hl:R.length≤20):(ctQ b kd w R f).refs.length≤20:=by
 rcases(ctQ_by (b:=b) (kd:=kd) (w:=w) (R:=R) f).2 with h|h<;>rw[h]
 · exact Nat.zero_le _
 · exact hl
theorem ctR_ok (ha:Arc n L) (nn mm:Int):Nms L (1+(rnd (nn.tdiv 4) 3).toNat) n 0 (ctR n L nn mm):=nms_ok ha (by have:=rnd_in mm 4095;omega)
theorem ctR_len (ha:Arc n L) (nn mm:Int):(ctR n L nn mm).length≤4:=by
 have h:=(ctR_ok ha nn mm).ln
 have:=rnd_in (nn.tdiv 4) 3
 omega
theorem ctR_in (ha:Arc n L) (hp:p∈ctR n L nn mm):∃ q∈L,q.cm.nm=p:=(ctR_ok ha nn mm).inn p hp
theorem cnt_g (ha:Arc n L) (hb:W.Is64 b) (nn mm:Int):Sq (cntQ n L b nn mm)∧FBits 100 (cntQ n L b nn mm).cm.fit:=by
 have r1:=rnd_in nn 3
 have r2:=rnd_in mm 8
 have g:=ctQ_g (w:=1+rnd mm 8) (kd:=rnd nn 3) (R:=ctR n L nn mm) hb (by omega) (by omega) (fun p hp=>by
  obtain⟨q,hq,rfl⟩:=ctR_in ha hp
  obtain⟨_,h1,h2,h3,h4,_⟩:=va_0 (ha.va q hq)
  exact⟨sm64 (x:=q.cm.by_) (by omega),sm64 (x:=q.cm.seq) (by omega)⟩) (nine nn mm)
 refine⟨(gq_of g.1 g.2 rfl (ctQ_len _ ?_)).s,g.2.up⟩
 have:=ctR_len ha nn mm
 omega
/-- What is not refused. -/
theorem tk_fresh (ha:Arc n L) (hv:validI c.cm=0) (hb:c.by_<(n:Int)) (hs:c.seq=((chn L c.by_).length:Int)) (hr:∀ p∈c.refs,∃ r∈L,r.cm.nm=p∧r.tick<c.tick) (hp:0<c.seq→∃ x,fnd L (c.by_,c.seq - 1)=some x∧x.tick<c.tick) (hl:L.length<200):tkE n L c=0∧tkF n L c=true∧tkL n L c=L++[c]:=by
 have hf:=fnd_new ha hs
 have e:tkE n L c=0:=by
  unfold tkE
  rw[if_neg (by simp[hv]),if_neg (by omega),hf]
  have hu:c.refs.any (unkB L)=false:=by
   rw[List.any_eq_false]
   intro p hpr
   obtain⟨r,h1,h2,h3⟩:=hr p hpr
   have:=fnd_of ha h1
   rw[h2]at this
   unfold unkB
   rw[this]
   simp
  have hlt:c.refs.any (lateB L c)=false:=by
   rw[List.any_eq_false]
   intro p hpr
   obtain⟨r,h1,h2,h3⟩:=hr p hpr
   have:=fnd_of ha h1
   rw[h2]at this
   unfold lateB tickF
   rw[this]
   simp only[decide_eq_true_eq]
   omega
  have hprev:¬(0<c.seq∧lateB L c (c.by_,c.seq - 1)=true):=by
   rintro ⟨h0,h1⟩
   obtain⟨x,hx,hlt⟩:=hp h0
   unfold lateB tickF at h1
   rw[hx]at h1
   have:=of_decide_eq_true h1
   simp only at this
   omega
  show(if c.seq≠((chn L c.by_).length:Int)∨c.refs.any (unkB L)=true then(10:Int)else _)=0
  rw[if_neg (fun h=>h.elim (fun h=>h hs) fun h=>by rw[hu]at h;cases h),if_neg (fun h=>h.elim (fun h=>by rw[hlt]at h;cases h) hprev),if_neg (by omega)]
 have f:tkF n L c=true:=by unfold tkF;rw[e,hf];rfl
 exact⟨e,f,by unfold tkL;rw[f];rfl⟩
theorem chn_split (h:L[i]? =some q):chn L q.by_=chn (L.take i) q.by_++q::chn (L.drop (i+1)) q.by_:=by
 obtain⟨l1,g1⟩:=List.getElem?_eq_some_iff.1 h
 conv=>lhs;rw[←List.take_append_drop i L,List.drop_eq_getElem_cons l1,g1]
 unfold chn
 rw[List.filter_append,List.filter_cons_of_pos (by simp)]
theorem Arc.seq_at (ha:Arc n L) (h:L[i]? =some q):q.seq=((chn (L.take i) q.by_).length:Int):=by
 have e:=chn_split h
 have:(chn L q.by_)[(chn (L.take i) q.by_).length]? =some q:=by
  rw[e,List.getElem?_append_right (Nat.le_refl _),Nat.sub_self]
  rfl
 exact ha.seq _ _ _ this
/-- The first claims of an archive. -/
theorem Arc.take (ha:Arc n L) (i:Nat):Arc n (L.take i):=by
 have sub:∀ q∈L.take i,q∈L:=fun q hq=>List.mem_of_mem_take hq
 have ch:∀ (b:Int) (j:Nat) (q:CQ),(chn (L.take i) b)[j]? =some q→(chn L b)[j]? =some q:=fun b j q h=>by
  have:chn L b=chn (L.take i) b++chn (L.drop i) b:=by
   unfold chn
   rw[←List.filter_append,List.take_append_drop]
  rw[this,List.getElem?_append_left (List.getElem?_eq_some_iff.1 h).1]
  exact h
 refine⟨ha.n1,by have:=ha.len;rw[List.length_take];omega,fun q hq=>ha.sq q (sub q hq),fun q hq=>ha.fb q (sub q hq),fun q hq=>ha.va q (sub q hq),fun q hq=>ha.by_ q (sub q hq),fun b j q h=>ha.seq b j q (ch b j q h),fun b j k q r h1 h2 h3=>ha.tk b j k q r (ch b j q h1) (ch b k r h2) h3,fun j q h p hp=> ?_⟩
 rw[List.getElem?_take]at h
 split at h
 · rename_i hj
   have:=ha.rf j q h p hp
   rw[List.take_take,Nat.min_eq_left (by omega)]
   exact this
 · cases h
/-- Each claim of an archive is taken behind those before it. -/
theorem Arc.again (ha:Arc n L) (h:L[i]? =some q):tkE n (L.take i) q=0∧tkF n (L.take i) q=true∧tkL n (L.take i) q=L.take (i+1):=by
 have hq:=List.mem_of_getElem? h
 have hil:=(List.getElem?_eq_some_iff.1 h).1
 have len:=ha.len
 have hv:=ha.va q hq
 have v:=va_0 hv
 have tke:L.take (i+1)=L.take i++[q]:=by rw[List.take_add_one,h];rfl
 rw[tke]
 have key:=ha.seq_at h
 refine tk_fresh (ha.take i) hv (ha.by_ q hq) key (fun p hp=>ha.rf i q h p hp) (fun h0=> ?_) (by rw[List.length_take];omega)
 rw[key]at h0
 obtain⟨x,hx⟩:∃ x,(chn (L.take i) q.by_)[(chn (L.take i) q.by_).length - 1]? =some x:=⟨_,List.getElem?_eq_getElem (by omega)⟩
 have hf:fnd (L.take i) (q.by_,q.seq - 1)=some x:=by
  rw[key,show((chn (L.take i) q.by_).length:Int) - 1=(((chn (L.take i) q.by_).length - 1:Nat):Int)by omega]
  exact fnd_chn (ha.take i) hx
 refine⟨x,hf, ?_⟩
 obtain⟨h1,h2⟩:=fnd_mem hf
 have e1:x.by_=q.by_:=congrArg Prod.fst h2
 have e2:x.seq=q.seq - 1:=congrArg Prod.snd h2
 have h3:=(ha.at_ (List.mem_of_mem_take h1)).1
 have h4:=(ha.at_ hq).1
 rw[e1,e2]at h3
 exact ha.tk _ _ _ _ _ h3 h4 (by omega)
end
end Go.Proofs.YtmgagedefmmloaaGreatDoor.E.Ca
namespace Go.Proofs.YtmgagedefmmloaaGreatDoor.E.Ca
open Go.RowKit Hs
set_option linter.unusedVariables false
set_option linter.unusedSimpArgs false
section
variable {L C:List CQ} {p:Int×Int} {q r c:CQ} {b t:Int} {i j k m n:Nat} {l:List Int} {H:List (Int×DG)} {x:Int×DG}
theorem takL_from (ha:Arc n L):∀ (d i:Nat) (m:Int),i+d=L.length→takL n (L.take i) (L.drop i) m=(L,m+d,0)
 |0,i,m,hi=>by
  rw[List.drop_eq_nil_of_le (by omega),List.take_of_length_le (by omega),takL]
  simp
 |d+1,i,m,hi=>by
  obtain⟨q,hq⟩:∃ q,L[i]? =some q:=⟨_,List.getElem?_eq_getElem (by omega)⟩
  have dr:L.drop i=q::L.drop (i+1):=by
   obtain⟨l1,g1⟩:=List.getElem?_eq_some_iff.1 hq
   rw[List.drop_eq_getElem_cons l1,g1]
  obtain⟨a1,a2,a3⟩:=ha.again hq
  rw[dr,takL,if_pos a1,a2,a3,if_pos rfl,takL_from ha d (i+1) (m+1) (by omega)]
  congr 2
  omega
theorem takL_all (ha:Arc n L):takL n [] L 0=(L,(L.length:Int),0):=by
 have:=takL_from ha L.length 0 0 (by omega)
 rw[List.take_zero,List.drop_zero]at this
 simpa using this
theorem e_newN (h:1≤n∧n≤5):PureT PP 35 [] [ni n] (.io 0 (hA_ (cnts n []) []) (.tu [.lp 2 0,ni 0])):=by
 have:=e_new h
 rw[cnts_nil]at this
 exact this
/-- Heads of the reference, of the program. -/
noncomputable abbrev fOwn:Func:=fnOf PP 41
noncomputable def owX (H:List (Int×DG)) (i:Nat):St:=at_ fOwn [(0,slH H),(3,.ow 0),(4,ni i)] [.rw THd 17 ((H.take i).map hdV)]
theorem hd_next (h:H[i]? =some x):(H.take i).map hdV++[ni x.1::w16 x.2]=(H.take (i+1)).map hdV:=by
 rw[List.take_add_one,h,List.map_append]
 rfl
theorem e_ownH (hn:H.length≤1000):Pure PP 41 [slH H] (slH H):=by
 have ll:(H.map hdV).length=H.length:=List.length_map ..
 refine pf (by kernel_rfl) (.to mo_ [.ow 3 (.rw THd 17 [])] [0,3,4] [0] 1 [] (td':=lp fOwn 0) (σ':=owX H 0) ?_ (by kernel_rfl))
 refine Gd.loop (owX H) (fun i=>i≤H.length) (fun i=>H.length - i) ?_ 0 (Nat.zero_le _)
 intro i hi ih
 by_cases h:i<H.length
 · have lt:decide ((i:Int)<((H.map hdV).length:Int))=true:=decide_eq_true (by omega)
   obtain⟨x,hx⟩:∃ x,H[i]? =some x:=⟨_,List.getElem?_eq_getElem h⟩
   have s1:=hd_at hx
   have nx:=ih (i+1) h (by omega)
   have ap:=hd_next hx
   have al:((H.take (i+1)).map hdV).length≤2000:=by rw[List.length_map,List.length_take];omega
   unfold owX at nx⊢
   unfold slH at*
   generalize (H.take (i+1)).map hdV=R2 at*
   generalize (H.take i).map hdV=R at*
   exact .to mo_ [.mv 0 2] [0,3,4] [0] 1 [ye lt,.sel _ _ _ s1,.sel _ _ _ s1,.app _ _ _ 2000 ap (Nat.zero_lt_succ _) al,inc 10 i (by omega)] nx (by kernel_rfl)
 · have lt:decide ((i:Int)<((H.map hdV).length:Int))=false:=decide_eq_false (by omega)
   unfold owX
   rw[List.take_of_length_le (by omega)]
   unfold slH
   exact fi [na lt] (by kernel_rfl) (by kernel_rfl)
noncomputable abbrev fLH:Func:=fnOf PP 21
noncomputable def lhX (cs:List Int) (L:List CQ) (H:List (Int×DG)) (i:Nat):St:=at_ fLH [(0,.lp 2 0),(3,.ow 3),(4,slH H),(5,ni i)] [.rw TI 1 (zs cs),.mp (mpL L),.bx TArc [.ow 0,.nm 1],.rw TRH 17 ((H.take i).map hdV)]
theorem e_lheads (ha:Arc n L):PureT PP 21 (hA_ (cnts n L) L) [.lp 2 0] (.io 3 (hA_ (cnts n L) L) (slH (hdsL n L))):=by
 have hh:=e_heads ha
 have n1:=ha.n1
 have hn:(hdsL n L).length≤5:=by unfold hdsL;rw[List.length_map,List.length_range];omega
 generalize hdsL n L=H at*
 have ll:(H.map hdV).length=H.length:=List.length_map ..
 have go:Gd PP 21 (.io 3 (hA_ (cnts n L) L) (slH H)) (lp fLH 0) (lhX (cnts n L) L H 0):=by
  refine Gd.loop (lhX (cnts n L) L H) (fun i=>i≤H.length) (fun i=>H.length - i) ?_ 0 (Nat.zero_le _)
  intro i hi ih
  by_cases h:i<H.length
  · have lt:decide ((i:Int)<((H.map hdV).length:Int))=true:=decide_eq_true (by omega)
    obtain⟨x,hx⟩:∃ x,H[i]? =some x:=⟨_,List.getElem?_eq_getElem h⟩
    have s1:=hd_at hx
    have nx:=ih (i+1) h (by omega)
    have ap:=hd_next hx
    have al:((H.take (i+1)).map hdV).length≤2000:=by rw[List.length_map,List.length_take];omega
    unfold lhX at nx⊢
    unfold slH hA_ at*
    generalize (H.take (i+1)).map hdV=R2 at*
    generalize (H.take i).map hdV=R at*
    generalize mpL L=M at*
    exact .to mo_ [.mv 3 5] [0,3,4,5] [0,1,2,3] 4 [ye lt,.sel _ _ _ s1,.sel _ _ _ s1,.app _ _ _ 2000 ap (Nat.zero_lt_succ _) al,inc 13 i (by omega)] nx (by kernel_rfl)
  · have lt:decide ((i:Int)<((H.map hdV).length:Int))=false:=decide_eq_false (by omega)
    unfold lhX
    rw[List.take_of_length_le (by omega)]
    unfold slH hA_
    generalize mpL L=M at*
    exact fiG [.fz 2] [na lt] (by kernel_rfl) (by kernel_rfl)
 unfold lhX at go
 unfold slH hA_ hC_ at*
 rw[List.take_zero]at go
 generalize mpL L=M at*
 exact pfT (by kernel_rfl) (.to mo_ [.fz 4,.ow 3 (.rw TRH 17 []),.mv 3 4] [0,3,4,5] [0,1,2,3] 4 [.lend _ _ _ _ [0,1,2] hh] go (by kernel_rfl))
end
end Go.Proofs.YtmgagedefmmloaaGreatDoor.E.Ca
namespace Go.Proofs.YtmgagedefmmloaaGreatDoor.E.Ca
open Go.RowKit Hs
set_option linter.unusedVariables false
set_option linter.unusedSimpArgs false
section
variable {L C:List CQ} {p:Int×Int} {q r c:CQ} {b t:Int} {i j k m n:Nat} {l:List Int} {H:List (Int×DG)} {x:Int×DG} {w:World}
def bts (W:DG):List Int:=(List.range 16).map fun i=>((W i).toNat:Int)
theorem w16_kv (W:DG):(w16 W).map kv=(bts W).map (Value.int .u8):=by
 unfold w16 bts
 rw[List.map_map,List.map_map]
 rfl
theorem eqD_at (d:Nat) (W:DG):(Op.equalIn (d+2) TD (.agg ((bts W).map (Value.int .u8)).toArray) (.agg ((bts W).map (Value.int .u8)).toArray)).run PP w= .ok true w:=by
 have h:bOk PP TD 16=true:=by kernel_rfl
 unfold bOk at h
 split at h
 · rename_i k e hu
   simp only[Bool.and_eq_true]at h
   obtain⟨h1,h2,h3,h4⟩:=h
   have h1:=Nat.eq_of_beq_eq_true h1
   have h3:=Nat.eq_of_beq_eq_true h3
   obtain⟨i,hi⟩:=Option.isSome_iff_exists.1 h4
   have hl:(bts W).length=k:=by unfold bts;rw[List.length_map,List.length_range,h1]
   rw[run_equalIn_array w (d+1) _ _ hu hi,h3,List.range_eq_range']
   have:=eqItems_b (w:=w) d (bT_of h2) k 0 (bts W) (bts W) [] [] hl hl rfl rfl
   rw[decide_eq_true rfl]at this
   exact this
 · cases h
def hdOk (P:Program) (T D:TypeId):Bool:=match P.underlying T with
 |some (.struct fs)=>(match fs.toList with
  |[a,b]=>a.name != "_" &&(iT P a.type&&(Nat.beq a.offset 0&&(b.name != "_" &&(Nat.beq b.type D&&Nat.beq b.offset 1))))
  |_=>false)&& !P.stoodInHeld T
 |_=>false
theorem sixteen {α:Type} {l:List α} (h:l.length=16):∃ a0 a1 a2 a3 a4 a5 a6 a7 a8 a9 b0 b1 b2 b3 b4 b5,l=[a0,a1,a2,a3,a4,a5,a6,a7,a8,a9,b0,b1,b2,b3,b4,b5]:=by
 match l,h with
 |[a0,a1,a2,a3,a4,a5,a6,a7,a8,a9,b0,b1,b2,b3,b4,b5],_=>exact⟨_,_,_,_,_,_,_,_,_,_,_,_,_,_,_,_,rfl⟩
theorem part_D (v:Value) {l:List Value} (h:l.length=16):(part TD (v::l).toArray 1).run PP w= .ok (.agg l.toArray) w:=by
 obtain⟨a0,a1,a2,a3,a4,a5,a6,a7,a8,a9,b0,b1,b2,b3,b4,b5,rfl⟩:=sixteen h
 kernel_rfl
theorem eqH (x:Int×DG):EqA PP TRH (hdV x) (hdV x) true:=fun w=>by
 have h:hdOk PP TRH TD=true:=by kernel_rfl
 unfold hdOk at h
 split at h
 · rename_i fs hu
   rw[Bool.and_eq_true]at h
   obtain⟨h,hs⟩:=h
   split at h
   · rename_i f0 f1 hfs
     simp only[Bool.and_eq_true,bne_iff_ne]at h
     obtain⟨n0,i0,o0,n1,t1,o1⟩:=h
     have i0:=iT_of i0
     have o0:=Nat.eq_of_beq_eq_true o0
     have t1:=Nat.eq_of_beq_eq_true t1
     have o1:=Nat.eq_of_beq_eq_true o1
     have hf:PP.fieldsOf TRH=fs:=by simp[Program.fieldsOf,hu]
     have cs:(hdV x).map kv=Value.int .i64 x.1::(bts x.2).map (Value.int .u8):=by
      show kv (ni x.1)::(w16 x.2).map kv=_
      rw[w16_kv]
      rfl
     have bl:((bts x.2).map (Value.int .u8)).length=16:=by unfold bts;simp
     rw[cs]
     show(Op.equalIn 10000 TRH _ _).run PP w=_
     rw[run_equalIn_struct w 9999 TRH _ _ (by rw[hu,hf]) (by simp),hf,hfs]
     have e4:=eqD_at (w:=w) 9997 x.2
     have p1:=part_D (w:=w) (Value.int .i64 x.1) bl
     generalize (bts x.2).map (Value.int .u8)=bs at*
     have p0:(part f0.type (Value.int .i64 x.1::bs).toArray f0.offset).run PP w= .ok (.int .i64 x.1) w:=part_int i0 (by rw[o0];rfl)
     have e3:=run_equalIn_int (P:=PP) w 9998 f0.type .i64 .i64 x.1 x.1 i0
     rw[←t1,←o1]at p1
     rw[←t1]at e4
     simp[Op.eqFields,n0,n1,p0,p1,e3,e4]
   · cases h
 · cases h
noncomputable abbrev fSH:Func:=fnOf PP 20
theorem e_sameH (hn:H.length≤1000):Pure PP 20 [slH H,slH H] (bo true):=by
 have ll:(H.map hdV).length=H.length:=List.length_map ..
 let X:Nat→St:=fun i=>at_ fSH [(0,slH H),(1,slH H),(5,ni i)] []
 have ne:((((H.map hdV).length:Int)) != (((H.map hdV).length:Int)))=false:=by simp
 refine pf (by kernel_rfl) (.to mo_ [] [0,1,5] [] 0 [na ne] (td':=lp fSH 0) (σ':=X 0) ?_ (by kernel_rfl))
 refine Gd.loop X (fun i=>i≤H.length) (fun i=>H.length - i) ?_ 0 (Nat.zero_le _)
 intro i hi ih
 by_cases h:i<H.length
 · have lt:decide ((i:Int)<((H.map hdV).length:Int))=true:=decide_eq_true (by omega)
   obtain⟨x,hx⟩:∃ x,H[i]? =some x:=⟨_,List.getElem?_eq_getElem h⟩
   have s1:=hd_at hx
   have eq:=eqH x
   exact .to mo_ [] [0,1,5] [] 0 [ye lt,.sel _ _ _ s1,.sel _ _ _ s1,.eqa _ _ _ _ eq,nf,inc 16 i (by omega)] (ih (i+1) h (by omega)) (by kernel_rfl)
 · have lt:decide ((i:Int)<((H.map hdV).length:Int))=false:=decide_eq_false (by omega)
   exact fi [na lt] (by kernel_rfl) (by kernel_rfl)
theorem sorted_mem (ha:Arc n L):q∈sorted L↔q∈L:=by
 refine⟨sorted_sub,fun h=> ?_⟩
 obtain⟨a,h1,h2,_⟩:=sorted_cov h
 rw[←ha.one (sorted_sub h1) h h2]
 exact h1
theorem sorted_self (ha:Arc n L) (h:L.Pairwise fun a b=>cmp2 a b<0):sorted L=L:=strict_eq cmp2_cmp (sorted_pw L) h fun a=>sorted_mem ha
end
end Go.Proofs.YtmgagedefmmloaaGreatDoor.E.Ca
namespace Go.Proofs.YtmgagedefmmloaaGreatDoor.E.Ca
open Go.RowKit Hs
set_option linter.unusedVariables false
set_option linter.unusedSimpArgs false
section
variable {b s t k w:Int} {R:List (Int×Int)}
theorem lit_g (hb: -2000≤b∧b≤2000) (hs: -2000≤s∧s≤2000) (ht: -2000≤t∧t≤2000) (hk: -2000≤k∧k≤2000) (hw: -2000≤w∧w≤2000) (hR:∀ p∈R,(-2000≤p.1∧p.1≤2000)∧(-2000≤p.2∧p.2≤2000)) (hl:R.length≤20):Sq ⟨b,s,t,k,R,zQ,w⟩∧FBits 100 (CQ.cm ⟨b,s,t,k,R,zQ,w⟩).fit:=by
 have f:(CQ.cm ⟨b,s,t,k,R,zQ,w⟩).fit=zF:=zQ_fm
 have fb:FB (CQ.cm ⟨b,s,t,k,R,zQ,w⟩):=by unfold FB;rw[f];exact zF_bits
 have g:G64 (CQ.cm ⟨b,s,t,k,R,zQ,w⟩):=⟨⟨sm64 (x:=b) hb,sm64 (x:=s) hs,sm64 (x:=t) ht,sm64 (x:=k) hk,sm64 (x:=w) hw⟩,fun p hp=>⟨sm64 (hR p hp).1,sm64 (hR p hp).2⟩,by rw[f];exact zF_64⟩
 exact⟨(gq_of g fb rfl hl).s,fb.up⟩
end
def ex1:CQ:=⟨1,0,1,0,[],zQ,3⟩
def ex2:CQ:=⟨0,0,2,3,[(1,0)],zQ,0⟩
def ex3:CQ:=⟨0,1,3,3,[(1,1)],zQ,0⟩
def exO:CQ:=⟨1,0,1,0,[],zQ,4⟩
def ne1:CQ:=⟨1,0,0,0,[],zQ,3⟩
def ne2:CQ:=⟨0,0,0,3,[(1,0)],zQ,0⟩
def ne3:CQ:=⟨0,0,0,3,[(1,1)],zQ,0⟩
def exL:List CQ:=[ex1,ex2]
theorem g_ex1:Sq ex1∧FBits 100 ex1.cm.fit:=lit_g (by omega) (by omega) (by omega) (by omega) (by omega) (fun p hp=>by cases hp) (by decide)
theorem g_exO:Sq exO∧FBits 100 exO.cm.fit:=lit_g (by omega) (by omega) (by omega) (by omega) (by omega) (fun p hp=>by cases hp) (by decide)
theorem g_ne1:Sq ne1∧FBits 100 ne1.cm.fit:=lit_g (by omega) (by omega) (by omega) (by omega) (by omega) (fun p hp=>by cases hp) (by decide)
theorem g_ex2:Sq ex2∧FBits 100 ex2.cm.fit:=lit_g (by omega) (by omega) (by omega) (by omega) (by omega) (fun p hp=>by rw[List.mem_singleton]at hp;subst hp;decide) (by decide)
theorem g_ne2:Sq ne2∧FBits 100 ne2.cm.fit:=lit_g (by omega) (by omega) (by omega) (by omega) (by omega) (fun p hp=>by rw[List.mem_singleton]at hp;subst hp;decide) (by decide)
theorem g_ne3:Sq ne3∧FBits 100 ne3.cm.fit:=lit_g (by omega) (by omega) (by omega) (by omega) (by omega) (fun p hp=>by rw[List.mem_singleton]at hp;subst hp;decide) (by decide)
theorem v_ex1:validI ex1.cm=0:=by
 show validI ⟨1,0,1,0,[],zQ.fm,3⟩=0
 rw[zQ_fm,v_0 rfl (by decide+kernel),zF_ok]
 decide
theorem v_exO:validI exO.cm=0:=by
 show validI ⟨1,0,1,0,[],zQ.fm,4⟩=0
 rw[zQ_fm,v_0 rfl (by decide+kernel),zF_ok]
 decide
theorem v_ex2:validI ex2.cm=0:=by
 show validI ⟨0,0,2,3,[(1,0)],zQ.fm,0⟩=0
 rw[zQ_fm,v_3 rfl (by decide+kernel),zF_ok]
 decide
theorem v_ex3:validI ex3.cm=0:=by
 show validI ⟨0,1,3,3,[(1,1)],zQ.fm,0⟩=0
 rw[zQ_fm,v_3 rfl (by decide+kernel),zF_ok]
 decide
theorem a_0:Arc 2 []:=Arc.nil (by omega)
theorem t_1:tkE 2 [] ex1=0∧tkF 2 [] ex1=true∧tkL 2 [] ex1=[ex1]:=tk_fresh a_0 v_ex1 (by decide) rfl (fun p hp=>by cases hp) (fun h=>absurd h (by decide)) (by decide)
theorem a_1:Arc 2 [ex1]:=by
 have:=tkL_arc a_0 g_ex1.1 g_ex1.2
 rw[t_1.2.2]at this
 exact this
theorem t_2:tkE 2 [ex1] ex2=0∧tkF 2 [ex1] ex2=true∧tkL 2 [ex1] ex2=exL:=tk_fresh a_1 v_ex2 (by decide) rfl (fun p hp=>by
 rw[show ex2.refs=[(1,0)]from rfl,List.mem_singleton]at hp
 subst hp
 exact⟨ex1,List.mem_singleton.2 rfl,rfl,by decide⟩) (fun h=>absurd h (by decide)) (by decide)
theorem a_2:Arc 2 exL:=by
 have:=tkL_arc a_1 g_ex2.1 g_ex2.2
 rw[t_2.2.2]at this
 exact this
theorem q_1:mkQ 2 [] ne1=ex1:=rfl
theorem q_2:mkQ 2 [ex1] ne2=ex2:=rfl
theorem q_3:mkQ 2 exL ne3=ex3:=rfl
theorem m_1:mkE 2 [] ne1=0∧mkL 2 [] ne1=[ex1]∧mkV 2 [] ne1=dQ ex1:=by
 have e:mkE 2 [] ne1=0:=(if_pos (by decide)).trans (by rw[q_1];exact t_1.1)
 exact⟨e,(if_pos e).trans (by rw[q_1];exact t_1.2.2),(if_pos e).trans (by rw[q_1])⟩
theorem m_2:mkE 2 [ex1] ne2=0∧mkL 2 [ex1] ne2=exL∧mkV 2 [ex1] ne2=dQ ex2:=by
 have e:mkE 2 [ex1] ne2=0:=(if_pos (by decide)).trans (by rw[q_2];exact t_2.1)
 exact⟨e,(if_pos e).trans (by rw[q_2];exact t_2.2.2),(if_pos e).trans (by rw[q_2])⟩
theorem t_3:tkE 2 exL ex3=10:=by
 unfold tkE
 rw[if_neg (by simp[v_ex3]),if_neg (by decide)]
 rw[show fnd exL ex3.cm.nm=none from rfl]
 exact if_pos (.inr rfl)
theorem m_3:mkE 2 exL ne3=10∧mkL 2 exL ne3=exL∧mkV 2 exL ne3=zlC:=by
 have e:mkE 2 exL ne3=10:=(if_pos (by decide)).trans (by rw[q_3];exact t_3)
 have n0:¬mkE 2 exL ne3=0:=by rw[e];decide
 exact⟨e,if_neg n0,if_neg n0⟩
theorem t_b:tkE 2 [] ex2=10:=by
 unfold tkE
 rw[if_neg (by simp[v_ex2]),if_neg (by decide)]
 rw[show fnd [] ex2.cm.nm=none from rfl]
 exact if_pos (.inr rfl)
theorem l_b:takL 2 [] [ex2,ex1] 0=([],0,10):=by
 rw[takL,if_neg (by rw[t_b];decide),t_b]
theorem t_o:tkE 2 exL exO=7:=by
 unfold tkE
 rw[if_neg (by simp[v_exO]),if_neg (by decide)]
 rw[show fnd exL exO.cm.nm=some ex1 from rfl]
 refine if_neg fun e=> ?_
 have:(3:Int)=4:=congrArg CQ.w e
 cases this
theorem l_o:takL 2 exL [exO] 0=(exL,0,7):=by
 rw[takL,if_neg (by rw[t_o];decide),t_o]
theorem s_ex:sorted exL=exL:=sorted_self a_2 (by
 refine List.pairwise_cons.2 ⟨fun b hb=> ?_,List.pairwise_singleton _ _⟩
 rw[List.mem_singleton]at hb
 subst hb
 decide)
theorem k_ex:clkP exL 2=2:=rfl
noncomputable def hx0:Int×DG:=(1,sumW [ex2])
noncomputable def hx1:Int×DG:=(1,sumW [ex1])
theorem h_ex:hdsL 2 exL=[hx0,hx1]:=rfl
abbrev hZ:List (Int×DG):=[(0,zD),(0,zD)]
theorem w_ex:wantE 2 exL hZ=0:=by
 unfold wantE
 rw[if_neg (by decide),if_neg (by
  rw[Bool.not_eq_true,List.any_eq_false]
  intro k hk
  have hx:hZ.getD k (0,zD)=(0,zD):=by
   match k with
   |0=>rfl
   |1=>rfl
   |k+2=>rfl
  rw[hx]
  unfold oddH
  simp only[Int.toNat_zero,List.take_zero]
  rw[show sumW []=zD from rfl,dgE_refl]
  simp)]
theorem kp_ex:kpt (knwn hZ) (sorted exL)=exL:=by rw[s_ex];rfl
theorem c_ex:chkE [ex1] hx1 1=0:=by
 have b0:badC [ex1] 1 0 ex1=false:=by
  unfold badC
  rw[v_ex1]
  rfl
 unfold chkE
 rw[if_neg (by decide),if_neg (by
  rw[Bool.not_eq_true]
  show(badC [ex1] 1 0 ex1||false)=false
  rw[b0]
  rfl),if_neg (by
  rintro (h|h)
  · exact h rfl
  · rw[show hx1.2=sumW [ex1]from rfl,dgE_refl]at h;cases h)]
end Go.Proofs.YtmgagedefmmloaaGreatDoor.E.Ca
namespace Go.Proofs.YtmgagedefmmloaaGreatDoor.E.Ca
open Go.RowKit Hs
set_option linter.unusedVariables false
set_option linter.unusedSimpArgs false
theorem lv_1:PureT PP 36 (hA_ (cnts 2 []) []) [.lp 2 0,.ag (dQ ne1)] (.io 3 (hA_ (cnts 2 [ex1]) [ex1]) (.tu [.ag (dQ ex1),ni 0])):=by
 have h:=e_makeA a_0 g_ne1.1 g_ne1.2
 rw[m_1.1,m_1.2.1,m_1.2.2]at h
 exact h
theorem lv_2:PureT PP 36 (hA_ (cnts 2 [ex1]) [ex1]) [.lp 2 0,.ag (dQ ne2)] (.io 3 (hA_ (cnts 2 exL) exL) (.tu [.ag (dQ ex2),ni 0])):=by
 have h:=e_makeA a_1 g_ne2.1 g_ne2.2
 rw[m_2.1,m_2.2.1,m_2.2.2]at h
 exact h
theorem lv_3:PureT PP 36 (hA_ (cnts 2 exL) exL) [.lp 2 0,.ag (dQ ne3)] (.io 3 (hA_ (cnts 2 exL) exL) (.tu [.ag zlC,ni 10])):=by
 have h:=e_makeA a_2 g_ne3.1 g_ne3.2
 rw[m_3.1,m_3.2.1,m_3.2.2]at h
 exact h
theorem lv_4:PureT PP 15 (hA_ (cnts 2 exL) exL) [.lp 2 0] (.io 3 (hC_ (cnts 2 exL) exL [hdV hx0,hdV hx1]) (.ow 3)):=by
 have h:=e_heads a_2
 rw[h_ex]at h
 exact h
theorem lv_5:PureT PP 18 (hA_ (cnts 2 exL) exL) [.lp 2 0] (.io 3 (hD_ (cnts 2 exL) exL (allP exL 2) exL) (.ow 4)):=by
 have h:=e_claims a_2 (M:=exL) fun p=>rfl
 rw[s_ex]at h
 exact h
theorem lv_6:PW (cnts 2 exL) exL hZ (wR (cnts 2 exL) exL exL):=by
 have h:=e_want0 a_2 (H:=hZ) (by decide) w_ex
 rw[kp_ex]at h
 exact h
theorem lv_7:PureT PP 16 (hA_ (cnts 2 []) []) [.lp 2 0,slQ [ex2,ex1]] (.io 3 (hA_ (cnts 2 []) []) (.tu [ni 0,ni 10])):=by
 have h:=e_takeL a_0 (l:=[ex2,ex1]) (fun c hc=>by
  simp only[List.mem_cons,List.not_mem_nil,or_false]at hc
  rcases hc with rfl|rfl
  · exact g_ex2
  · exact g_ex1) (by decide)
 rw[l_b]at h
 exact h
theorem lv_8:PureT PP 16 (hA_ (cnts 2 []) []) [.lp 2 0,slQ exL] (.io 3 (hA_ (cnts 2 exL) exL) (.tu [ni 2,ni 0])):=by
 have h:=e_takeL a_0 (l:=exL) (fun c hc=>⟨a_2.sq c hc,a_2.fb c hc⟩) (by decide)
 rw[takL_all a_2]at h
 exact h
theorem lv_9:PureT PP 16 (hA_ (cnts 2 exL) exL) [.lp 2 0,slQ [exO]] (.io 3 (hA_ (cnts 2 exL) exL) (.tu [ni 0,ni 7])):=by
 have h:=e_takeL a_2 (l:=[exO]) (fun c hc=>by rw[List.mem_singleton]at hc;subst hc;exact g_exO) (by decide)
 rw[l_o]at h
 exact h
theorem lv_a:PureT PP 44 (hA_ (cnts 2 exL) exL) [.lp 2 0] (.io 3 (hA_ (cnts 2 exL) exL) (ni 2)):=by
 have h:=e_clock a_2
 rw[k_ex]at h
 exact h
theorem lv_b:Pure PP 24 [slQ [ex1],.ag (hdV hx1),ni 1] (ni 0):=by
 have h:=e_check (l:=[ex1]) (x:=hx1) (by_:=1) (fun q hq=>by rw[List.mem_singleton]at hq;subst hq;exact g_ex1) (by decide)
 rw[c_ex]at h
 exact h
theorem lv_c:PureT PP 21 (hA_ (cnts 2 exL) exL) [.lp 2 0] (.io 3 (hA_ (cnts 2 exL) exL) (slH [hx0,hx1])):=by
 have h:=e_lheads a_2
 rw[h_ex]at h
 exact h
def zrow:List Value:=Value.int .i64 0::List.replicate 16 (Value.int .u8 0)
def zc2:Array Value:=(zrow++zrow).toArray
def mkMs (T:TypeId) (xs:List Operand):Op:= .makeSlice T (xs.getD 0 (.tmp 0)) (xs.getD 1 (.tmp 0))
theorem run_ms (w:World):(Instr.makeSlice THs (.int .i64 2) (.int .i64 2)).run PP w= .ok (.slice (some ⟨w.heap.size,0,none⟩) 2 2) (w.alloc (.cells zc2 THd)):=by kernel_rfl
/-- Two heads of nothing. -/
theorem x_ms:Ext PP (mkMs THs) [ni 2,ni 2] [] [] (slH hZ):=by
 intro B M h m w a o xs ho K hl hr _ _
 obtain⟨x,y,rfl⟩:=two_of hl
 have hx:=Rep.k_inv (hr 0 x _ rfl rfl)
 have hy:=Rep.k_inv (hr 1 y _ rfl rfl)
 simp only[mkMs,List.getD_cons_zero,List.getD_cons_succ]at ho
 have hb:Go.RowKit.Below w.heap.size w (w.alloc (.cells zc2 THd)):=(Go.RowKit.Below.refl _ _).alloc (Nat.le_refl _) _
 have hg:(w.alloc (.cells zc2 THd)).heap[w.heap.size]? =some (.cells zc2 THd (0,0)):=by show(w.heap.push _)[w.heap.size]? =_;simp
 have at_:∀ (i j:Nat) (cs:List V) (v:V),(hZ.map hdV)[i]? =some cs→cs[j]? =some v→j<17∧i<2∧v= .k (zrow.getD j undef):=fun i j cs v hi hj=>by
  have e:cs=zrow.map V.k:=by
   match i with
   |0=>injection hi with hi;rw[←hi];rfl
   |1=>injection hi with hi;rw[←hi];rfl
   |i+2=>simp at hi
  have hi2:i<2:=by have:=(List.getElem?_eq_some_iff.1 hi).1;simpa using this
  subst e
  rw[List.getElem?_map]at hj
  cases hz:zrow[j]? with
  |none=>rw[hz]at hj;cases hj
  |some u=>
   rw[hz]at hj
   injection hj with hj
   refine⟨?_,hi2, ?_⟩
   · have:=(List.getElem?_eq_some_iff.1 hz).1;simpa[zrow]using this
   · rw[List.getD_eq_getElem?_getD,hz,←hj];rfl
 have zc:∀ i j:Nat,i<2→j<17→zc2[i*17+j]? =some (zrow.getD j undef):=fun i j hi hj=>by
  have zl:zrow.length=17:=rfl
  unfold zc2
  rw[List.getElem?_toArray]
  match i,hi with
  |0,_=>rw[List.getElem?_append_left (by omega),List.getD_eq_getElem?_getD,show 0*17+j=j by omega,List.getElem?_eq_getElem (by omega)];rfl
  |1,_=>rw[List.getElem?_append_right (by omega),List.getD_eq_getElem?_getD,show 1*17+j - zrow.length=j by omega,List.getElem?_eq_getElem (by omega)];rfl
 refine Exec.val (u:= .slice (some ⟨w.heap.size,0,none⟩) 2 2) (w':=w.alloc (.cells zc2 THd)) ?_ ⟨m,K.call hb, ?_,.call hb,Bl.of hb K.bs,fun b hb=> .inl hb⟩
 · simp[execOp,ho,hx,hy,run_ms]
 · refine Rep.sl m (some ⟨w.heap.size,0,none⟩) w.heap.size 0 2 17 (hZ.map hdV) (fun i j=>zrow.getD j undef) (Nat.le_refl _) (by decide) (fun _=>⟨rfl,fun e=>Nat.lt_irrefl _ (K.av_lt e),⟨_,_,_,hg⟩⟩) (fun cs hcs=> ?_) (fun i j cs v hi hj=> ?_) (fun i j cs v hi hj=> ?_)
   · obtain⟨p,hp,rfl⟩:=List.mem_map.1 hcs
     rfl
   · obtain⟨h1,h2,_⟩:=at_ i j cs v hi hj
     have:=zc i j h2 h1
     simp only[World.cell?,hg]
     rw[show 0+i*17+j=i*17+j by omega]
     exact this
   · obtain⟨_,_,h3⟩:=at_ i j cs v hi hj
     rw[h3]
     exact .k _ _
/-- **The documented example.** -/
theorem e_lives40:Pure PP 22 [] (bo true):=tr [.lend _ _ _ _ [] (e_newN (n:=2) (by decide)),nf,pnA 32 2,nf,.lend _ _ _ _ [0,1,2] lv_1,.ro,.lend _ _ _ _ [0,1,2] lv_2,.ro,.lend _ _ _ _ [0,1,2] lv_3,.lend _ _ _ _ [0,1,2] lv_4,.lend _ _ _ _ [0,1,2] lv_5,.ext (some 62) _ _ _ _ _ x_ms,.lend _ _ _ _ [0,1,2] lv_6,.lend _ _ _ _ [] (e_newN (n:=2) (by decide)),nf,nf,nf,nf,nf,pnA 90 13,nf,nf,nf,nf,.ro,.lend _ _ _ _ [11,12,13] lv_7,.lend _ _ _ _ [11,12,13] lv_8,.ro,.lend _ _ _ _ [11,12,13] lv_9,yt,yt,yt,yt,.sel [hdV hx0,hdV hx1] 0 (hdV hx0) rfl,.sel [hdV hx0,hdV hx1] 0 (hdV hx0) rfl,yt,.sel [hdV hx0,hdV hx1] 1 (hdV hx1) rfl,.sel [hdV hx0,hdV hx1] 1 (hdV hx1) rfl,yt,.lend _ _ _ _ [0,1,2] lv_a,cl (e_sameAll exL),yt,cl (e_sameAll exL),yt,.lend _ _ _ _ [11,12,13] lv_c,.lend _ _ _ _ [0,1,2] lv_c,cl (e_sameH (H:=[hx0,hx1]) (by decide)),yt,yt,yt,yt,yt,yt,yt,yt,.sel [hdV hx0,hdV hx1] 1 (hdV hx1) rfl,.sel [hdV hx0,hdV hx1] 1 (hdV hx1) rfl,cl lv_b] (by kernel_rfl)
end Go.Proofs.YtmgagedefmmloaaGreatDoor.E.Ca
