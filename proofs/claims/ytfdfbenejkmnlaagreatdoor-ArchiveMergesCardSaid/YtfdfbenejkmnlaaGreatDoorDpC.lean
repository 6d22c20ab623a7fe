/-
 GENERATORS of archives, plain: contents can be taken; archives that grow; a list of claims is taken again.
-/
import Derived.Test.YtfdfbenejkmnlaaGreatDoorDnD
namespace Go.Proofs.YtfdfbenejkmnlaaGreatDoor.E.Ca
open Go.RowKit Hs
set_option linter.unusedVariables false
set_option linter.unusedSimpArgs false
section
variable {L C R:List CQ} {p:Int×Int} {q r c:CQ} {b:Int} {i j k m n:Nat} {O:List (Int×Int)}
/-- Names that were made so far: in their order, of claims that are there, before (b, i). -/
structure Nms (L:List CQ) (most b i:Nat) (O:List (Int×Int)):Prop where
 sr:O.Pairwise fun x y=>lessN x y=true
 inn:∀ p∈O,∃ q∈L,q.cm.nm=p
 lt:∀ p∈O,p.1<(b:Int)∨(p.1=(b:Int)∧p.2<(i:Int))
 ln:O.length≤most
theorem Nms.next {b':Nat} (h:Nms L m b' i O) (hb:b'+1=k):Nms L m k 0 O:=⟨h.sr,h.inn,fun p hp=>by rcases h.lt p hp with h|h<;>exact .inl (by omega),h.ln⟩
theorem Nms.skip (h:Nms L m k i O):Nms L m k (i+1) O:=⟨h.sr,h.inn,fun p hp=>by rcases h.lt p hp with h|h;exact .inl h;exact .inr ⟨h.1,by omega⟩,h.ln⟩
theorem Nms.add (h:Nms L m k i O) (hq:q∈L) (e:q.cm.nm=((k:Int),(i:Int))) (hl:O.length<m):Nms L m k (i+1) (O++[q.cm.nm]):=by
 refine⟨List.pairwise_append.2 ⟨h.sr,List.pairwise_singleton _ _,fun x hx y hy=> ?_⟩,fun p hp=> ?_,fun p hp=> ?_,by rw[List.length_append];simp only[List.length_cons,List.length_nil];omega⟩
 · rw[List.mem_singleton]at hy
   subst hy
   rw[e]
   unfold lessN
   rcases h.lt x hx with g|g
   · rw[decide_eq_true g];rfl
   · rw[Bool.or_eq_true]
     right
     rw[Bool.and_eq_true]
     exact⟨by simpa using g.1,decide_eq_true g.2⟩
 · rcases List.mem_append.1 hp with hp|hp
   · exact h.inn p hp
   · rw[List.mem_singleton]at hp;exact⟨q,hq,hp.symm⟩
 · rcases List.mem_append.1 hp with hp|hp
   · rcases h.lt p hp with g|g
     · exact .inl g
     · exact .inr ⟨g.1,by omega⟩
   · rw[List.mem_singleton]at hp
     subst hp
     rw[e]
     exact .inr ⟨rfl,by show(i:Int)<_;omega⟩
def nxB (k:Nat):Nat:=k / 2+k % 2*7919
def nmI (b most:Nat):List CQ→Nat→List (Int×Int)→Nat×List (Int×Int)
 |[],bits,O=>(bits,O)
 |q::r,bits,O=>if O.length<most then nmI b most r (nxB bits) (if bits % 2=1 then O++[((b:Int),q.seq)]else O)else(bits,O)
def nmA (L:List CQ) (most:Nat):Nat→Nat→Nat→List (Int×Int)→List (Int×Int)
 |0,_,_,O=>O
 |d+1,b,bits,O=>nmA L most d (b+1) (nmI b most (chn L (b:Int)) bits O).1 (nmI b most (chn L (b:Int)) bits O).2
/-- The names. -/
def nmsF (n:Nat) (L:List CQ) (bits most:Nat):List (Int×Int):=nmA L most n 0 bits []
theorem nxB_le (h:k≤16000):nxB k≤16000:=by unfold nxB;omega
theorem nmI_ok (ha:Arc n L) {most b:Nat}:∀ (d i:Nat),i+d=(chn L (b:Int)).length→∀ bits O,bits≤16000→Nms L most b i O→(nmI b most ((chn L (b:Int)).drop i) bits O).1≤16000∧Nms L most (b+1) 0 (nmI b most ((chn L (b:Int)).drop i) bits O).2
 |0,i,hi,bits,O,hb,h=>by
  rw[List.drop_eq_nil_of_le (by omega),nmI]
  exact⟨hb,h.next rfl⟩
 |d+1,i,hi,bits,O,hb,h=>by
  obtain⟨q,hq⟩:∃ q,(chn L (b:Int))[i]? =some q:=⟨_,List.getElem?_eq_getElem (by omega)⟩
  have dr:(chn L (b:Int)).drop i=q::(chn L (b:Int)).drop (i+1):=by
   obtain⟨l1,g1⟩:=List.getElem?_eq_some_iff.1 hq
   rw[List.drop_eq_getElem_cons l1,g1]
  rw[dr,nmI]
  split
  · rename_i hl
    refine nmI_ok ha d (i+1) (by omega) _ _ (nxB_le hb) ?_
    split
    · have hm:=chn_mem.1 (List.mem_of_getElem? hq)
      have hs:=ha.seq _ _ _ hq
      have e:q.cm.nm=((b:Int),(i:Int)):=by show(q.by_,q.seq)=_;rw[hm.2,hs]
      have:=h.add hm.1 e hl
      rw[e,←hs]at this
      exact this
    · exact h.skip
  · exact⟨hb,Nms.next ⟨h.sr,h.inn,fun p hp=>h.lt p hp,h.ln⟩ rfl⟩
theorem nmA_ok (ha:Arc n L) {most:Nat}:∀ (d b bits:Nat) (O:List (Int×Int)),bits≤16000→Nms L most b 0 O→Nms L most (b+d) 0 (nmA L most d b bits O)
 |0,b,bits,O,hb,h=>h
 |d+1,b,bits,O,hb,h=>by
  have g:=nmI_ok ha (most:=most) (b:=b) (chn L (b:Int)).length 0 (by omega) bits O hb h
  rw[List.drop_zero]at g
  have:=nmA_ok ha (most:=most) d (b+1) _ _ g.1 g.2
  rw[show b+(d+1)=b+1+d by omega]
  exact this
theorem nms_ok (ha:Arc n L) {bits most:Nat} (hb:bits≤16000):Nms L most n 0 (nmsF n L bits most):=by
 have:=nmA_ok ha (most:=most) n 0 bits [] hb ⟨.nil,fun p h=>(by cases h),fun p h=>(by cases h),Nat.zero_le _⟩
 rw[Nat.zero_add]at this
 exact this
noncomputable abbrev fNm:Func:=fnOf PP 54
abbrev TNm:Nat:= 54
noncomputable def nm1 (n:Nat) (L:List CQ) (bits most b:Nat) (O:List (Int×Int)):St:=at_ fNm [(1,ni bits),(2,ni most),(3,.lp 0 0),(7,.ow 1),(8,ni b)] [.bx TRA (aR n L),.rw TNm 2 (rfs O)]
noncomputable def nm2 (n:Nat) (L:List CQ) (bits most b i:Nat) (O:List (Int×Int)):St:=at_ fNm [(1,ni bits),(2,ni most),(3,.lp 0 0),(7,.ow 1),(8,ni b),(9,slQ (chn L (b:Int))),(10,ni i)] [.bx TRA (aR n L),.rw TNm 2 (rfs O)]
abbrev GNm (OUT:List (Int×Int)) (td:List Item) (σ:St):Prop:=Gd PP 54 (.sl (rfs OUT)) td σ
theorem bits_next (h:k≤16000):((k:Int).tdiv 2)=((k / 2:Nat):Int)∧((k:Int).tmod 2)=((k % 2:Nat):Int):=⟨by rw[td_ (by omega)];omega,by rw[tm_ (by omega)];omega⟩
theorem nm_in {most b:Nat} {OUT:List (Int×Int)} (ha:Arc n L) (hm:most≤100) (hbn:b<n) (next:∀ bits O,bits≤16000→O.length≤most→nmA L most (n - (b+1)) (b+1) bits O=OUT→GNm OUT (lp fNm 0) (nm1 n L bits most (b+1) O)) {bits:Nat} {O:List (Int×Int)} (hk:bits≤16000) (h0:O.length≤most) (hO:nmA L most (n - b) b bits O=OUT):
  GNm OUT (lp fNm 1) (nm2 n L bits most b 0 O):=by
 have n1:=ha.n1
 have len:=chn_le L (b:Int)
 have hl:=ha.len
 have ll:((chn L (b:Int)).map dQ).length=(chn L (b:Int)).length:=List.length_map ..
 rw[show n - b=(n - (b+1))+1 by omega,nmA]at hO
 refine Gd.loop (fun x:Nat×Nat×List (Int×Int)=>nm2 n L x.2.1 most b x.1 x.2.2) (fun x=>x.1≤(chn L (b:Int)).length∧x.2.1≤16000∧x.2.2.length≤most∧nmI b most ((chn L (b:Int)).drop x.1) x.2.1 x.2.2=nmI b most (chn L (b:Int)) bits O) (fun x=>(chn L (b:Int)).length - x.1) ?_ (0,bits,O) ⟨Nat.zero_le _,hk,h0,by rw[List.drop_zero]⟩
 generalize hR:nmI b most (chn L (b:Int)) bits O=R at hO⊢
 obtain⟨bits',O'⟩:=R
 rintro ⟨i,bits,O⟩ ⟨hi,hk,h0,hI⟩ ih
 simp only at hi hk h0 hI hO ih
 have lO:=rfs_len O
 have out:(bits,O)=(bits',O')→(GNm OUT (lp fNm 0) (nm1 n L bits most (b+1) O)):=fun e=>by
  injection e with e1 e2
  subst e1;subst e2
  exact next bits O hk h0 hO
 by_cases h:i<(chn L (b:Int)).length
 · have lt:decide ((i:Int)<(((chn L (b:Int)).map dQ).length:Int))=true:=decide_eq_true (by omega)
   obtain⟨q,hq⟩:∃ q,(chn L (b:Int))[i]? =some q:=⟨_,List.getElem?_eq_getElem h⟩
   have dr:(chn L (b:Int)).drop i=q::(chn L (b:Int)).drop (i+1):=by
    obtain⟨l1,g1⟩:=List.getElem?_eq_some_iff.1 hq
    rw[List.drop_eq_getElem_cons l1,g1]
   rw[dr,nmI]at hI
   have s1:=dQ_at hq
   by_cases hm2:O.length<most
   · rw[if_pos hm2]at hI
     have lt2:decide (((rfs O).length:Int)<(most:Int))=true:=decide_eq_true (by omega)
     obtain⟨b1,b2⟩:=bits_next hk
     have nb:=nxB_le hk
     by_cases hb:bits % 2=1
     · rw[if_pos hb]at hI
       have nx:=ih (i+1,nxB bits,O++[((b:Int),q.seq)]) ⟨h,nb,by simp only;rw[List.length_append];simp only[List.length_cons,List.length_nil];omega,hI⟩ (by simp only;omega)
       have e1:((((bits % 2:Nat):Int))==1)=true:=by rw[hb];rfl
       have ap:rfs O++[E.nm ((b:Int),q.seq)]=rfs (O++[((b:Int),q.seq)]):=by rw[←rfs_app];rfl
       have al:(rfs (O++[((b:Int),q.seq)])).length≤2000:=by rw[rfs_len,List.length_append];simp only[List.length_cons,List.length_nil];omega
       unfold nxB at nx
       unfold nm2 aR at nx⊢
       unfold slQ at*
       generalize (chn L (b:Int)).map dQ=CC at*
       generalize rfs (O++[((b:Int),q.seq)])=R2 at*
       generalize rfs O=R1 at*
       exact .to mo_ [.mv 1 3] [1,2,3,7,8,9,10] [0,1] 2 [ye lt,ye lt2,.eqv 33 (ni ((bits:Int).tmod 2)) (ni ((bits % 2:Nat):Int)) (by rw[b2]),ye e1,.sel _ _ _ s1,.app _ _ _ 2000 ap (Nat.zero_lt_succ _) al,wq 46 ((bits:Int).tdiv 2) ((bits / 2:Nat):Int) (by omega),.eqv 48 (ni ((bits:Int).tmod 2)) (ni ((bits % 2:Nat):Int)) (by rw[b2]),wq 49 (((bits % 2:Nat):Int)*7919) ((bits % 2*7919:Nat):Int) (by omega),wq 50 (((bits / 2:Nat):Int)+((bits % 2*7919:Nat):Int)) ((bits / 2+bits % 2*7919:Nat):Int) (by omega),inc 31 i (by omega)] nx (by kernel_rfl)
     · rw[if_neg hb]at hI
       have nx:=ih (i+1,nxB bits,O) ⟨h,nb,h0,hI⟩ (by simp only;omega)
       have e1:((((bits % 2:Nat):Int))==1)=false:=by rw[show bits % 2=0 by omega];rfl
       unfold nxB at nx
       unfold nm2 aR at nx⊢
       unfold slQ at*
       generalize (chn L (b:Int)).map dQ=CC at*
       generalize rfs O=R1 at*
       exact .to mo_ [] [1,2,3,7,8,9,10] [0,1] 2 [ye lt,ye lt2,.eqv 33 (ni ((bits:Int).tmod 2)) (ni ((bits % 2:Nat):Int)) (by rw[b2]),na e1,wq 46 ((bits:Int).tdiv 2) ((bits / 2:Nat):Int) (by omega),.eqv 48 (ni ((bits:Int).tmod 2)) (ni ((bits % 2:Nat):Int)) (by rw[b2]),wq 49 (((bits % 2:Nat):Int)*7919) ((bits % 2*7919:Nat):Int) (by omega),wq 50 (((bits / 2:Nat):Int)+((bits % 2*7919:Nat):Int)) ((bits / 2+bits % 2*7919:Nat):Int) (by omega),inc 31 i (by omega)] nx (by kernel_rfl)
   · rw[if_neg hm2]at hI
     have g:=out hI
     have lt2:decide (((rfs O).length:Int)<(most:Int))=false:=decide_eq_false (by omega)
     unfold nm1 aR at g
     unfold nm2 aR
     unfold slQ at*
     exact .to mo_ [] [1,2,3,7,8] [0,1] 2 [ye lt,na lt2,inc 16 b (by omega)] g (by kernel_rfl)
 · rw[List.drop_eq_nil_of_le (by omega),nmI]at hI
   have g:=out hI
   have lt:decide ((i:Int)<(((chn L (b:Int)).map dQ).length:Int))=false:=decide_eq_false (by omega)
   unfold nm1 aR at g
   unfold nm2 aR
   unfold slQ at*
   exact .to mo_ [] [1,2,3,7,8] [0,1] 2 [na lt,nf,inc 16 b (by omega)] g (by kernel_rfl)
theorem e_names {bits most:Nat} (ha:Arc n L) (hk:bits≤16000) (hm:most≤100):Pure PP 54 [.ag (aR n L),ni bits,ni most] (.sl (rfs (nmsF n L bits most))):=by
 have n1:=ha.n1
 have hL:L.length≤1000:=by have:=ha.len;omega
 refine pf (by kernel_rfl) (.to mo_ [.ow 7 (.rw TNm 2 [])] [1,2,3,7,8] [0,1] 2 [] (td':=lp fNm 0) (σ':=nm1 n L bits most 0 []) ?_ (by kernel_rfl))
 refine Gd.loop (fun x:Nat×Nat×List (Int×Int)=>nm1 n L x.2.1 most x.1 x.2.2) (fun x=>x.1≤n∧x.2.1≤16000∧x.2.2.length≤most∧nmA L most (n - x.1) x.1 x.2.1 x.2.2=nmsF n L bits most) (fun x=>n - x.1) ?_ (0,bits,[]) ⟨Nat.zero_le _,hk,Nat.zero_le _,rfl⟩
 rintro ⟨b,bits1,O⟩ ⟨hb,hk1,h0,hO⟩ ih
 simp only at hb hk1 h0 hO ih
 by_cases h:b<n
 · have lt:decide ((b:Int)<(n:Int))=true:=decide_eq_true (by omega)
   have ch:=e_rchain (n:=n) (b:=(b:Int)) hL
   have g:=nm_in ha hm h (fun bits O h1 h2 h3=>ih (b+1,bits,O) ⟨h,h1,h2,h3⟩ (by simp only;omega)) hk1 h0 hO
   unfold nm2 aR at g
   unfold nm1 aR
   unfold aR at ch
   unfold slQ at*
   exact .to mo_ [] [1,2,3,7,8,9,10] [0,1] 2 [ye lt,cl ch] g (by kernel_rfl)
 · have:b=n:=by omega
   subst this
   have lt:decide ((b:Int)<(b:Int))=false:=decide_eq_false (by omega)
   rw[Nat.sub_self,nmA]at hO
   rw[←hO]
   unfold nm1 aR
   unfold slQ
   exact fi [na lt] (by kernel_rfl) (by kernel_rfl)
end
end Go.Proofs.YtfdfbenejkmnlaaGreatDoor.E.Ca
namespace Go.Proofs.YtfdfbenejkmnlaaGreatDoor.E.Ca
open Go.RowKit Hs
set_option linter.unusedVariables false
set_option linter.unusedSimpArgs false
section
variable {L C:List CQ} {R:List (Int×Int)} {p:Int×Int} {q r c:CQ} {b kd nn mm s t w:Int} {i j k m n:Nat}
theorem div64 {x:Int} (h:W.Is64 x) {d:Int} (hd:0<d):W.Is64 (x.tdiv d):=by
 unfold W.Is64 at h⊢
 by_cases hx:x<0
 · have h1:x.tdiv d= -((-x).tdiv d):=by rw[Int.neg_tdiv,Int.neg_neg]
   have h2:0≤(-x).tdiv d:=Int.tdiv_nonneg (by omega) (by omega)
   have h3:(-x).tdiv d≤ -x:=Int.tdiv_le_self _ (by omega)
   omega
 · have h2:0≤x.tdiv d:=Int.tdiv_nonneg (by omega) (by omega)
   have h3:x.tdiv d≤x:=Int.tdiv_le_self _ (by omega)
   omega
def nine (n m:Int):List Int:=[n,m,n.tdiv 3,m.tdiv 3,n.tdiv 9,m.tdiv 9,n.tdiv 27,m.tdiv 27,n.tdiv 81]
theorem nine64 (hn:W.Is64 nn) (hm:W.Is64 mm):∀ x∈nine nn mm,W.Is64 x:=fun x hx=>by
 simp only[nine,List.mem_cons,List.not_mem_nil,or_false]at hx
 rcases hx with rfl|rfl|rfl|rfl|rfl|rfl|rfl|rfl|rfl
 · exact hn
 · exact hm
 all_goals first|exact div64 hn (by omega)|exact div64 hm (by omega)
/-- The content, by what was drawn. -/
def ctQ (b kd w:Int) (R:List (Int×Int)) (f:FQ):CQ:=if kd=0∨R=[]∨(kd=2∧R.length<2)then⟨b,0,0,0,[],zQ,w⟩else if kd=1 then⟨b,0,0,1,R,f,0⟩else⟨b,0,0,kd,R,zQ,0⟩
def ctR (n:Nat) (L:List CQ) (nn mm:Int):List (Int×Int):=nmsF n L (1+(rnd mm 4095).toNat) (1+(rnd (nn.tdiv 4) 3).toNat)
def cntQ (n:Nat) (L:List CQ) (b nn mm:Int):CQ:=ctQ b (rnd nn 3) (1+rnd mm 8) (ctR n L nn mm) (fitQ (nine nn mm) 0)
abbrev PCn (n:Nat) (L:List CQ) (b nn mm:Int) (q:CQ):Prop:=Pure PP 19 [.ag (aR n L),ni b,ni nn,ni mm] (.ag (dQ q))
theorem dQ_z:dQ ⟨b,0,0,0,[],zQ,w⟩=dC ⟨b,0,0,0,[],zF,w⟩:=by unfold dQ CQ.cm;rw[zQ_fm]
theorem dQ_zk:dQ ⟨b,0,0,kd,R,zQ,0⟩=dC ⟨b,0,0,kd,R,zF,0⟩:=by unfold dQ CQ.cm;rw[zQ_fm]
theorem e_content (ha:Arc n L) (hn:W.Is64 nn) (hm:W.Is64 mm):PCn n L b nn mm (cntQ n L b nn mm):=by
 have a1:=e_around hn 3
 have a2:=e_around hm 8
 have a3:=e_around hm 4095
 have a4:=e_around (div64 hn (show(0:Int)<4 by decide)) 3
 have r1:=rnd_in nn 3
 have r2:=rnd_in mm 8
 have r3:=rnd_in mm 4095
 have r4:=rnd_in (nn.tdiv 4) 3
 have nm:=e_names ha (bits:=1+(rnd mm 4095).toNat) (most:=1+(rnd (nn.tdiv 4) 3).toNat) (by omega) (by omega)
 have ft:=e_fit (nine64 hn hm) 0 (by omega)
 have q4:=div64 hn (show(0:Int)<4 by decide)
 have d3:=div64 hn (show(0:Int)<3 by decide)
 have e3:=div64 hm (show(0:Int)<3 by decide)
 have d9:=div64 hn (show(0:Int)<9 by decide)
 have e9:=div64 hm (show(0:Int)<9 by decide)
 have d27:=div64 hn (show(0:Int)<27 by decide)
 have e27:=div64 hm (show(0:Int)<27 by decide)
 have d81:=div64 hn (show(0:Int)<81 by decide)
 unfold PCn cntQ ctR
 generalize nmsF n L (1+(rnd mm 4095).toNat) (1+(rnd (nn.tdiv 4) 3).toNat)=R at*
 have lR:=rfs_len R
 let F0:List F_:=[cl a1,cl a2,wq 16 (1+rnd mm 8) (1+rnd mm 8) (by omega),cl a3,wq 21 (1+rnd mm 4095) ((1+(rnd mm 4095).toNat:Nat):Int) (by omega),eq64 23 (nn.tdiv 4) q4,cl a4,wq 25 (1+rnd (nn.tdiv 4) 3) ((1+(rnd (nn.tdiv 4) 3).toNat:Nat):Int) (by omega),cl nm]
 have e41:ni ((rfs R).length:Int)=ni (R.length:Int):=by rw[lR]
 generalize fitQ (nine nn mm) 0=f at*
 generalize 1+rnd mm 8=w at*
 generalize rnd nn 3=kd at*
 have hk:kd=0∨kd=1∨kd=2∨kd=3:=by omega
 by_cases hR:R=[]
 · have e:ctQ b kd w R f=⟨b,0,0,0,[],zQ,w⟩:=if_pos (.inr (.inl hR))
   rw[e,dQ_z]
   subst hR
   rcases hk with rfl|rfl|rfl|rfl
   · exact tr (F0++[yt,yt,yt]) (by kernel_rfl)
   · exact tr (F0++[nf,yt,yt]) (by kernel_rfl)
   · exact tr (F0++[nf,yt,yt]) (by kernel_rfl)
   · exact tr (F0++[nf,yt,yt]) (by kernel_rfl)
 · have hl:0<R.length:=List.length_pos_iff.2 hR
   have n0:((R.length:Int)==0)=false:=by
    have:(R.length:Int)≠0:=by omega
    simpa using this
   rcases hk with rfl|rfl|rfl|rfl
   · have e:ctQ b 0 w R f=⟨b,0,0,0,[],zQ,w⟩:=if_pos (.inl rfl)
     rw[e,dQ_z]
     exact tr (F0++[yt,yt,yt]) (by kernel_rfl)
   · have e:ctQ b 1 w R f=⟨b,0,0,1,R,f,0⟩:=(if_neg (fun h=>by rcases h with h|h|h;cases h;exact hR h;cases h.1)).trans (if_pos rfl)
     rw[e]
     exact tr (F0++[nf,.eqv 32 _ _ e41,na n0,nf,nf,yt,eq64 56 _ d3,eq64 58 _ e3,eq64 60 _ d9,eq64 62 _ e9,eq64 64 _ d27,eq64 66 _ e27,eq64 68 _ d81,.ro,cl ft]) (by kernel_rfl)
   · by_cases h2:R.length<2
     · have e:ctQ b 2 w R f=⟨b,0,0,0,[],zQ,w⟩:=if_pos (.inr (.inr ⟨rfl,h2⟩))
       rw[e,dQ_z]
       exact tr (F0++[nf,.eqv 32 _ _ e41,na n0,yt,.eqv 41 _ _ e41,ye (t:=decide ((R.length:Int)<2)) (decide_eq_true (by omega))]) (by kernel_rfl)
     · have e:ctQ b 2 w R f=⟨b,0,0,2,R,zQ,0⟩:=(if_neg (fun h=>by rcases h with h|h|h;cases h;exact hR h;exact h2 h.2)).trans (if_neg (by decide))
       rw[e,dQ_zk]
       exact tr (F0++[nf,.eqv 32 _ _ e41,na n0,yt,.eqv 41 _ _ e41,na (t:=decide ((R.length:Int)<2)) (decide_eq_false (by omega)),nf]) (by kernel_rfl)
   · have e:ctQ b 3 w R f=⟨b,0,0,3,R,zQ,0⟩:=(if_neg (fun h=>by rcases h with h|h|h;cases h;exact hR h;cases h.1)).trans (if_neg (by decide))
     rw[e,dQ_zk]
     exact tr (F0++[nf,.eqv 32 _ _ e41,na n0,nf,nf,nf]) (by kernel_rfl)
end
end Go.Proofs.YtfdfbenejkmnlaaGreatDoor.E.Ca
namespace Go.Proofs.YtfdfbenejkmnlaaGreatDoor.E.Ca
open Go.RowKit Hs
set_option linter.unusedVariables false
set_option linter.unusedSimpArgs false
section
variable {L C:List CQ} {R:List (Int×Int)} {p:Int×Int} {q r c:CQ} {b kd nn mm s t w:Int} {i j k m n:Nat} {l:List Int}
theorem FBits.up {f:FM} (h:FBits 100 f):FBits 100 f:=fun n hn=>⟨fun hc=>I.Bd.mono ((h n hn).1 hc) (by omega),fun hc=>I.Bd.mono ((h n hn).2 hc) (by omega)⟩
theorem fitQ_64 (l:List Int) (i:Nat):W.Is64 (fitQ l i).fm.a∧W.Is64 (fitQ l i).fm.b∧W.Is64 (fitQ l i).fm.ea∧W.Is64 (fitQ l i).fm.eb∧W.Is64 (fitQ l i).fm.many:=by
 have h1:=atz_in l i 2
 have h2:=atz_in l (i+1) 1
 have h3:=atz_in l (i+2) 11
 have h4:=atz_in l (i+3) 11
 have h5:=atz_in l (i+4) 2
 refine⟨sm64 (x:=atz l i 2) (by omega),sm64 (x:=atz l i 2+1+atz l (i+1) 1) (by omega),sm64 (x:=atz l (i+2) 11) (by omega),sm64 (x:=atz l (i+3) 11) (by omega),sm64 (x:=1+atz l (i+4) 2) (by omega)⟩
theorem ctQ_g (hb:W.Is64 b) (hw:0≤w∧w≤100) (hk:0≤kd∧kd≤3) (hR:∀ p∈R,W.Is64 p.1∧W.Is64 p.2) (l:List Int):G64 (ctQ b kd w R (fitQ l 0)).cm∧FB (ctQ b kd w R (fitQ l 0)).cm:=by
 have zz:G64 (CQ.cm ⟨b,0,0,0,[],zQ,w⟩):=⟨⟨hb,z64,z64,z64,sm64 (x:=w) (by omega)⟩,fun p hp=>(by simp[CQ.cm]at hp),by rw[show(CQ.cm ⟨b,0,0,0,[],zQ,w⟩).fit=zF from zQ_fm];exact zF_64⟩
 have zf:FB (CQ.cm ⟨b,0,0,0,[],zQ,w⟩):=by unfold FB;rw[show(CQ.cm ⟨b,0,0,0,[],zQ,w⟩).fit=zF from zQ_fm];exact zF_bits
 unfold ctQ
 split
 · exact⟨zz,zf⟩
 · split
   · exact⟨⟨⟨hb,z64,z64,sm64 (x:=1) (by omega),z64⟩,hR,fitQ_64 l 0⟩,fit_bits l 0⟩
   · refine⟨⟨⟨hb,z64,z64,sm64 (x:=kd) (by omega),z64⟩,hR, ?_⟩, ?_⟩
     · rw[show(CQ.cm ⟨b,0,0,kd,R,zQ,0⟩).fit=zF from zQ_fm];exact zF_64
     · unfold FB;rw[show(CQ.cm ⟨b,0,0,kd,R,zQ,0⟩).fit=zF from zQ_fm];exact zF_bits
theorem ctQ_by (f:FQ):(ctQ b kd w R f).by_=b∧((ctQ b kd w R f).refs=[]∨(ctQ b kd w R f).refs=R):=by
 unfold ctQ
 split
 · exact⟨rfl,.inl rfl⟩
 · split
   · exact⟨rfl,.inr rfl⟩
   · exact⟨rfl,.inr rfl⟩
theorem ctQ_len (f:FQ) (hl:R.length≤20):(ctQ b kd w R f).refs.length≤20:=by
 rcases(ctQ_by (b:=b) (kd:=kd) (w:=w) (R:=R) f).2 with h|h<;>rw[h]
 · exact Nat.zero_le _
 · exact hl
theorem ctR_ok (ha:Arc n L) (nn mm:Int):Nms L (1+(rnd (nn.tdiv 4) 3).toNat) n 0 (ctR n L nn mm):=nms_ok ha (by have:=rnd_in mm 4095;omega)
theorem ctR_len (ha:Arc n L) (nn mm:Int):(ctR n L nn mm).length≤4:=by
 have h:=(ctR_ok ha nn mm).ln
 have:=rnd_in (nn.tdiv 4) 3
 omega
theorem nm_poss (ha:Arc n L) (hq:q∈L):possB q.cm.nm=true:=by
 have:=va_0 (ha.va q hq)
 unfold possB CM.nm
 simp only[Bool.and_eq_true,decide_eq_true_eq]
 exact⟨⟨⟨this.2.1,this.2.2.1⟩,this.2.2.2.1⟩,this.2.2.2.2.1⟩
theorem ctR_in (ha:Arc n L) (hp:p∈ctR n L nn mm):∃ q∈L,q.cm.nm=p:=(ctR_ok ha nn mm).inn p hp
theorem cnt_g (ha:Arc n L) (hb:W.Is64 b) (nn mm:Int):Sq (cntQ n L b nn mm)∧FBits 100 (cntQ n L b nn mm).cm.fit:=by
 have r1:=rnd_in nn 3
 have r2:=rnd_in mm 8
 have g:=ctQ_g (w:=1+rnd mm 8) (kd:=rnd nn 3) (R:=ctR n L nn mm) hb (by omega) (by omega) (fun p hp=>by
  obtain⟨q,hq,rfl⟩:=ctR_in ha hp
  obtain⟨_,h1,h2,h3,h4,_⟩:=va_0 (ha.va q hq)
  exact⟨sm64 (x:=q.cm.by_) (by omega),sm64 (x:=q.cm.seq) (by omega)⟩) (nine nn mm)
 refine⟨(gq_of g.1 g.2 rfl (ctQ_len _ ?_)).s,g.2.up⟩
 have:=ctR_len ha nn mm
 omega
theorem ct_valid (hp:possB (b,s)=true) (ht:0≤t∧t≤1048576) (hk:0≤kd∧kd≤3) (hw:1≤w∧w≤1024) (hr:refersB (b,s) R=true) (hl:R.length≤10) (l:List Int):validI (CQ.cm {ctQ b kd w R (fitQ l 0)with seq:=s,tick:=t})=0:=by
 have hrl:=rfs_len R
 have r0:refersB (b,s) []=true:=rfl
 have t1:decide (t<0)=false:=decide_eq_false (by omega)
 have t2:decide (t>1048576)=false:=decide_eq_false (by omega)
 have hlong:decide (((rfs R).length:Int)>16)=false:=decide_eq_false (by omega)
 unfold ctQ
 split
 · have hV:=v_0 (rf:=[]) (b:=b) (s:=s) (t:=t) (ft:=zF) (w:=w) rfl (by simp only[headB,CM.nm,hp,t1,t2,r0];rfl)
   show validI ⟨b,s,t,0,[],zQ.fm,w⟩=0
   rw[zQ_fm,hV,zF_ok]
   unfold bodyP
   rw[show decide (w<1)=false from decide_eq_false (by omega),show decide (w>1024)=false from decide_eq_false (by omega)]
   rfl
 · rename_i hn
   simp only[not_or,not_and]at hn
   have hpos:0<R.length:=List.length_pos_iff.2 hn.2.1
   have hk:kd=1∨kd=2∨kd=3:=by omega
   rcases hk with rfl|rfl|rfl
   · rw[if_pos rfl]
     have hV:=v_1 (rf:=R) (b:=b) (s:=s) (t:=t) (ft:=(fitQ l 0).fm) (w:=0) hlong (by simp only[headB,CM.nm,hp,t1,t2,hr];rfl)
     show validI ⟨b,s,t,1,R,(fitQ l 0).fm,0⟩=0
     rw[hV,fit_ok]
     unfold bodyP
     rw[hlong,show decide (((rfs R).length:Int)<1)=false from decide_eq_false (by omega)]
     rfl
   · rw[if_neg (by decide)]
     have h2:=hn.2.2 rfl
     have hV:=v_2 (rf:=R) (b:=b) (s:=s) (t:=t) (ft:=zF) (w:=0) hlong (by simp only[headB,CM.nm,hp,t1,t2,hr];rfl)
     show validI ⟨b,s,t,2,R,zQ.fm,0⟩=0
     rw[zQ_fm,hV,zF_ok]
     unfold bodyP
     rw[hlong,show decide (((rfs R).length:Int)<2)=false from decide_eq_false (by omega)]
     rfl
   · rw[if_neg (by decide)]
     have hV:=v_3 (rf:=R) (b:=b) (s:=s) (t:=t) (ft:=zF) (w:=0) hlong (by simp only[headB,CM.nm,hp,t1,t2,hr];rfl)
     show validI ⟨b,s,t,3,R,zQ.fm,0⟩=0
     rw[zQ_fm,hV,zF_ok]
     unfold bodyP
     rw[hlong,show decide (((rfs R).length:Int)<1)=false from decide_eq_false (by omega)]
     rfl
/-- What is not refused. -/
theorem tk_fresh (ha:Arc n L) (hv:validI c.cm=0) (hb:c.by_<(n:Int)) (hs:c.seq=((chn L c.by_).length:Int)) (hr:∀ p∈c.refs,∃ r∈L,r.cm.nm=p∧r.tick<c.tick) (hp:0<c.seq→∃ x,fnd L (c.by_,c.seq - 1)=some x∧x.tick<c.tick) (hl:L.length<200):tkE n L c=0∧tkF n L c=true∧tkL n L c=L++[c]:=by
 have hf:=fnd_new ha hs
 have e:tkE n L c=0:=by
  unfold tkE
  rw[if_neg (by simp[hv]),if_neg (by omega),hf]
  have hu:c.refs.any (unkB L)=false:=by
   rw[List.any_eq_false]
   intro p hpr
   obtain⟨r,h1,h2,h3⟩:=hr p hpr
   have:=fnd_of ha h1
   rw[h2]at this
   unfold unkB
   rw[this]
   simp
  have hlt:c.refs.any (lateB L c)=false:=by
   rw[List.any_eq_false]
   intro p hpr
   obtain⟨r,h1,h2,h3⟩:=hr p hpr
   have:=fnd_of ha h1
   rw[h2]at this
   unfold lateB tickF
   rw[this]
   simp only[decide_eq_true_eq]
   omega
  have hprev:¬(0<c.seq∧lateB L c (c.by_,c.seq - 1)=true):=by
   rintro ⟨h0,h1⟩
   obtain⟨x,hx,hlt⟩:=hp h0
   unfold lateB tickF at h1
   rw[hx]at h1
   have:=of_decide_eq_true h1
   simp only at this
   omega
  show(if c.seq≠((chn L c.by_).length:Int)∨c.refs.any (unkB L)=true then(10:Int)else _)=0
  rw[if_neg (fun h=>h.elim (fun h=>h hs) fun h=>by rw[hu]at h;cases h),if_neg (fun h=>h.elim (fun h=>by rw[hlt]at h;cases h) hprev),if_neg (by omega)]
 have f:tkF n L c=true:=by unfold tkF;rw[e,hf];rfl
 exact⟨e,f,by unfold tkL;rw[f];rfl⟩
theorem clk_ge (ha:Arc n L) (hq:q∈L):q.tick≤clkP L n:=clkP_ge ha hq n (ha.by_ q hq)
/-- Contents can be taken. -/
theorem cnt_mk (ha:Arc n L) (hb:0≤b∧b<(n:Int)) (hc:clkP L n<1048576) (hl:L.length<200) (nn mm:Int):mkE n L (cntQ n L b nn mm)=0∧mkL n L (cntQ n L b nn mm)=L++[mkQ n L (cntQ n L b nn mm)]:=by
 have r1:=rnd_in nn 3
 have r2:=rnd_in mm 8
 have n1:=ha.n1
 have h0:=clk_le ha n
 have by1:=(ctQ_by (b:=b) (kd:=rnd nn 3) (w:=1+rnd mm 8) (R:=ctR n L nn mm) (fitQ (nine nn mm) 0)).1
 have e1:(cntQ n L b nn mm).by_=b:=by1
 have hch:=chn_le L b
 have ps:possB (b,((chn L b).length:Int))=true:=by
  unfold possB
  simp only[Bool.and_eq_true,decide_eq_true_eq]
  omega
 have rf:refersB (b,((chn L b).length:Int)) (ctR n L nn mm)=true:=by
  refine refers_of (fun x hx=> ?_) (ctR_ok ha nn mm).sr
  obtain⟨q,hq,rfl⟩:=ctR_in ha hx
  refine⟨nm_poss ha hq,fun e=> ?_⟩
  have h1:q.by_=b:=congrArg Prod.fst e
  have h2:q.seq=((chn L b).length:Int):=congrArg Prod.snd e
  have h3:=(ha.at_ hq).1
  rw[h1,h2,Int.toNat_natCast,List.getElem?_eq_none (Nat.le_refl _)]at h3
  cases h3
 have hv:validI (mkQ n L (cntQ n L b nn mm)).cm=0:=by
  have:=ct_valid (b:=b) (s:=((chn L b).length:Int)) (t:=clkP L n+1) (kd:=rnd nn 3) (w:=1+rnd mm 8) (R:=ctR n L nn mm) ps (by omega) (by omega) (by omega) rf (by have:=ctR_len ha nn mm;omega) (nine nn mm)
  have e3:mkQ n L (cntQ n L b nn mm)={ctQ b (rnd nn 3) (1+rnd mm 8) (ctR n L nn mm) (fitQ (nine nn mm) 0)with seq:=((chn L b).length:Int),tick:=clkP L n+1}:=by
   unfold mkQ
   simp only[e1,by1]
   rfl
  rw[e3]
  exact this
 have tk:=tk_fresh (c:=mkQ n L (cntQ n L b nn mm)) ha hv (by show(cntQ n L b nn mm).by_<_;rw[e1];exact hb.2) rfl (fun p hp=>by
  have hp:p∈(cntQ n L b nn mm).refs:=hp
  rcases(ctQ_by (b:=b) (kd:=rnd nn 3) (w:=1+rnd mm 8) (R:=ctR n L nn mm) (fitQ (nine nn mm) 0)).2 with h|h
  · have hp:p∈(ctQ b (rnd nn 3) (1+rnd mm 8) (ctR n L nn mm) (fitQ (nine nn mm) 0)).refs:=hp
    rw[h]at hp;cases hp
  · have hp:p∈(ctQ b (rnd nn 3) (1+rnd mm 8) (ctR n L nn mm) (fitQ (nine nn mm) 0)).refs:=hp
    rw[h]at hp
    obtain⟨q,hq,e⟩:=ctR_in ha hp
    have:=clk_ge ha hq
    exact⟨q,hq,e,by show q.tick<clkP L n+1;omega⟩) (fun h1=>by
  have h1:0<((chn L (cntQ n L b nn mm).by_).length:Int):=h1
  rw[e1]at h1
  obtain⟨x,hx⟩:∃ x,(chn L b)[(chn L b).length - 1]? =some x:=⟨_,List.getElem?_eq_getElem (by omega)⟩
  have hf:fnd L (b,((chn L b).length:Int) - 1)=some x:=by
   rw[show((chn L b).length:Int) - 1=(((chn L b).length - 1:Nat):Int)by omega]
   exact fnd_chn ha hx
  refine⟨x, ?_, ?_⟩
  · show fnd L ((cntQ n L b nn mm).by_,((chn L (cntQ n L b nn mm).by_).length:Int) - 1)=some x
    rw[e1]
    exact hf
  · have:=clk_ge ha (fnd_mem hf).1
    show x.tick<clkP L n+1
    omega) hl
 have e2:mkE n L (cntQ n L b nn mm)=0:=(if_pos (by rw[e1];exact hb)).trans tk.1
 exact⟨e2,(if_pos e2).trans tk.2.2⟩
/-- An archive that grows. -/
def grw (n:Nat) (l:List Int):Nat→List CQ
 |0=>[]
 |i+1=>grw n l i++[mkQ n (grw n l i) (cntQ n (grw n l i) (atz l (3*i) (n - 1)) (l.getD (3*i+1) 0) (l.getD (3*i+2) 0))]
theorem Arc.clk_app (h:∀ q∈L,q.tick≤t) (h0:0≤t):clkP L n≤t:=by
 rcases clkP_in L n with e|⟨q,hq,e⟩
 · omega
 · have:=h q hq;omega
theorem atz_by (hn:1≤n) (l:List Int) (i:Nat):0≤atz l i (n - 1)∧atz l i (n - 1)<(n:Int):=by
 have:=atz_in l i (n - 1)
 omega
theorem grw_ok (hn:1≤n∧n≤5) (l:List Int):∀ i,i≤20→Arc n (grw n l i)∧(grw n l i).length=i∧(∀ q∈grw n l i,q.tick≤(i:Int))∧∀ nn mm:Int,mkL n (grw n l i) (cntQ n (grw n l i) (atz l (3*i) (n - 1)) nn mm)=grw n l i++[mkQ n (grw n l i) (cntQ n (grw n l i) (atz l (3*i) (n - 1)) nn mm)]∧mkE n (grw n l i) (cntQ n (grw n l i) (atz l (3*i) (n - 1)) nn mm)=0
 |0,_=>by
  have ha:=Arc.nil hn
  refine⟨ha,rfl,fun q h=>(by cases h),fun nn mm=> ?_⟩
  have:=cnt_mk ha (atz_by hn.1 l 0) (Int.lt_of_le_of_lt (Arc.clk_app (t:=0) (fun q h=>(by cases h)) (by omega)) (by decide)) (by decide) nn mm
  exact⟨this.2,this.1⟩
 | i + 1, hi => by
  obtain⟨ha,hl,ht,hm⟩:=grw_ok hn l i (by omega)
  obtain⟨m1,m2⟩:=hm (l.getD (3*i+1) 0) (l.getD (3*i+2) 0)
  have hb:=atz_by hn.1 l (3*i)
  have cg:=cnt_g ha (b:=atz l (3*i) (n - 1)) (sm64 (by omega)) (l.getD (3*i+1) 0) (l.getD (3*i+2) 0)
  have ha2:=mkL_arc ha cg.1 cg.2
  rw[m1]at ha2
  have ck:=Arc.clk_app (n:=n) ht (by omega)
  have ht2:∀ q∈grw n l (i+1),q.tick≤((i+1:Nat):Int):=fun q hq=>by
   rcases List.mem_append.1 hq with hq|hq
   · have:=ht q hq;omega
   · rw[List.mem_singleton]at hq
     subst hq
     show clkP (grw n l i) n+1≤_
     omega
  have len:(grw n l (i+1)).length=i+1:=by
   show(grw n l i++[_]).length=_
   rw[List.length_append,hl]
   rfl
  refine⟨ha2,len,ht2,fun nn mm=> ?_⟩
  have ck2:=Arc.clk_app (n:=n) ht2 (by omega)
  have:=cnt_mk ha2 (atz_by hn.1 l (3*(i+1))) (by show clkP (grw n l (i+1)) n<_;omega) (by show(grw n l (i+1)).length<200;omega) nn mm
  exact⟨this.2,this.1⟩
theorem chn_split (h:L[i]? =some q):chn L q.by_=chn (L.take i) q.by_++q::chn (L.drop (i+1)) q.by_:=by
 obtain⟨l1,g1⟩:=List.getElem?_eq_some_iff.1 h
 conv=>lhs;rw[←List.take_append_drop i L,List.drop_eq_getElem_cons l1,g1]
 unfold chn
 rw[List.filter_append,List.filter_cons_of_pos (by simp)]
theorem Arc.seq_at (ha:Arc n L) (h:L[i]? =some q):q.seq=((chn (L.take i) q.by_).length:Int):=by
 have e:=chn_split h
 have:(chn L q.by_)[(chn (L.take i) q.by_).length]? =some q:=by
  rw[e,List.getElem?_append_right (Nat.le_refl _),Nat.sub_self]
  rfl
 exact ha.seq _ _ _ this
theorem Arc.one_lt (ha:Arc n L) (h:L[i]? =some q) (hj:L[j]? =some r) (hij:i<j):q.cm.nm≠r.cm.nm:=fun e=>by
 have h1:q=r:=ha.one (List.mem_of_getElem? h) (List.mem_of_getElem? hj) e
 subst h1
 have e1:=ha.seq_at h
 have e2:=ha.seq_at hj
 have e3:(chn (L.take j) q.by_).length=(chn (L.take i) q.by_).length:=by omega
 have hm:(L.take j)[i]? =some q:=by rw[List.getElem?_take,if_pos hij];exact h
 have:=chn_split hm
 rw[this,List.length_append,List.length_cons,List.take_take,Nat.min_eq_left (by omega)]at e3
 omega
/-- The first claims of an archive. -/
theorem Arc.take (ha:Arc n L) (i:Nat):Arc n (L.take i):=by
 have sub:∀ q∈L.take i,q∈L:=fun q hq=>List.mem_of_mem_take hq
 have ch:∀ (b:Int) (j:Nat) (q:CQ),(chn (L.take i) b)[j]? =some q→(chn L b)[j]? =some q:=fun b j q h=>by
  have:chn L b=chn (L.take i) b++chn (L.drop i) b:=by
   unfold chn
   rw[←List.filter_append,List.take_append_drop]
  rw[this,List.getElem?_append_left (List.getElem?_eq_some_iff.1 h).1]
  exact h
 refine⟨ha.n1,by have:=ha.len;rw[List.length_take];omega,fun q hq=>ha.sq q (sub q hq),fun q hq=>ha.fb q (sub q hq),fun q hq=>ha.va q (sub q hq),fun q hq=>ha.by_ q (sub q hq),fun b j q h=>ha.seq b j q (ch b j q h),fun b j k q r h1 h2 h3=>ha.tk b j k q r (ch b j q h1) (ch b k r h2) h3,fun j q h p hp=> ?_⟩
 rw[List.getElem?_take]at h
 split at h
 · rename_i hj
   have:=ha.rf j q h p hp
   rw[List.take_take,Nat.min_eq_left (by omega)]
   exact this
 · cases h
/-- Each claim of an archive is taken behind those before it. -/
theorem Arc.again (ha:Arc n L) (h:L[i]? =some q):tkE n (L.take i) q=0∧tkF n (L.take i) q=true∧tkL n (L.take i) q=L.take (i+1):=by
 have hq:=List.mem_of_getElem? h
 have hil:=(List.getElem?_eq_some_iff.1 h).1
 have len:=ha.len
 have hv:=ha.va q hq
 have v:=va_0 hv
 have tke:L.take (i+1)=L.take i++[q]:=by rw[List.take_add_one,h];rfl
 rw[tke]
 have key:=ha.seq_at h
 refine tk_fresh (ha.take i) hv (ha.by_ q hq) key (fun p hp=>ha.rf i q h p hp) (fun h0=> ?_) (by rw[List.length_take];omega)
 rw[key]at h0
 obtain⟨x,hx⟩:∃ x,(chn (L.take i) q.by_)[(chn (L.take i) q.by_).length - 1]? =some x:=⟨_,List.getElem?_eq_getElem (by omega)⟩
 have hf:fnd (L.take i) (q.by_,q.seq - 1)=some x:=by
  rw[key,show((chn (L.take i) q.by_).length:Int) - 1=(((chn (L.take i) q.by_).length - 1:Nat):Int)by omega]
  exact fnd_chn (ha.take i) hx
 refine⟨x,hf, ?_⟩
 obtain⟨h1,h2⟩:=fnd_mem hf
 have e1:x.by_=q.by_:=congrArg Prod.fst h2
 have e2:x.seq=q.seq - 1:=congrArg Prod.snd h2
 have h3:=(ha.at_ (List.mem_of_mem_take h1)).1
 have h4:=(ha.at_ hq).1
 rw[e1,e2]at h3
 exact ha.tk _ _ _ _ _ h3 h4 (by omega)
end
end Go.Proofs.YtfdfbenejkmnlaaGreatDoor.E.Ca
