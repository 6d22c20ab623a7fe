/-
 THE LAWS by the engine, their arguments as they come in.
-/
import Derived.Test.YtmgagedefmmloaaGreatDoorDpG
import Derived.Test.YtmgagedefmmloaaGreatDoorFlow
import Derived.OpenShut
import Derived.Test.YtmgagedefmmloaaGreatDoorCaA
namespace Go.Proofs.YtmgagedefmmloaaGreatDoor.E.Ca
open Go.RowKit Hs
set_option linter.unusedVariables false
set_option linter.unusedSimpArgs false
section
variable {L C:List CQ} {p:Int×Int} {q r c:CQ} {b t nn mm how x y:Int} {i j k m n:Nat} {l:List Int}
theorem Sq.g64 (h:Sq q):G64 q.cm:=by
 have hh:=h.h
 have hf:=h.f
 simp only[hdQ,FQ.wh,List.mem_cons,List.not_mem_nil,or_false]at hh hf
 exact⟨⟨hh _ (.inl rfl),hh _ (.inr (.inl rfl)),hh _ (.inr (.inr (.inl rfl))),hh _ (.inr (.inr (.inr (.inl rfl)))),hh _ (.inr (.inr (.inr (.inr rfl))))⟩,h.r,hf _ (.inl rfl),hf _ (.inr (.inl rfl)),hf _ (.inr (.inr (.inl rfl))),hf _ (.inr (.inr (.inr (.inl rfl)))),hf _ (.inr (.inr (.inr (.inr rfl))))⟩
/-- A claim with one thing changed. -/
theorem odd_gen (h:Sq q) (hf:FBits 100 q.cm.fit) (hl:q.refs.length≤19) (hy:W.Is64 y) (x:Int):∃ p:CQ,oddF q.cm x y=p.cm∧Sq p∧FBits 100 p.cm.fit∧p.refs.length≤q.refs.length+1:=by
 obtain⟨p,e⟩:=odd_q (q:=q) x y
 have g:=odd_64 h.g64 hy x
 have f:=FB.odd (c:=q.cm) hf x hy
 have l1:=odd_len (c:=q.cm) (n:=y) x
 rw[e]at g f l1
 have l2:p.refs.length≤q.refs.length+1:=l1
 exact⟨p,e,(gq_of g f rfl (by omega)).s,f,l2⟩
theorem e_oddQ (h:Sq q) (hf:FBits 100 q.cm.fit) (hl:q.refs.length≤19) (hx:W.Is64 x) (hy:W.Is64 y):∃ p:CQ,Sq p∧FBits 100 p.cm.fit∧p.refs.length≤q.refs.length+1∧Pure PP 26 [.ag (dQ q),ni x,ni y] (.ag (dQ p)):=by
 obtain⟨p,e,h1,h2,h3⟩:=odd_gen h hf hl hy (rnd x 11)
 have o:=e_odd (c:=q.cm) (how:=x) (n:=y) (by show q.refs.length≤100;omega) hx hy
 rw[e]at o
 exact⟨p,h1,h2,h3,o⟩
theorem sq_head (h:Sq q) {s t:Int} (hs:W.Is64 s) (ht:W.Is64 t):Sq {q with seq:=s,tick:=t}:=by
 have hh:=h.h
 refine⟨fun x hx=> ?_,h.r,h.f,h.q,h.n⟩
 simp only[hdQ,List.mem_cons,List.not_mem_nil,or_false]at hx hh
 rcases hx with rfl|rfl|rfl|rfl|rfl
 · exact hh _ (.inl rfl)
 · exact hs
 · exact ht
 · exact hh _ (.inr (.inr (.inr (.inl rfl))))
 · exact hh _ (.inr (.inr (.inr (.inr rfl))))
theorem takL_arc:∀ (l L:List CQ) (m:Int),Arc n L→(∀ c∈l,Sq c∧FBits 100 c.cm.fit)→Arc n (takL n L l m).1
 |[],L,m,ha,_=>ha
 |c::r,L,m,ha,hc=>by
  rw[takL]
  split
  · exact takL_arc r _ _ (tkL_arc ha (hc c (List.mem_cons_self ..)).1 (hc c (List.mem_cons_self ..)).2) fun x hx=>hc x (List.mem_cons_of_mem _ hx)
  · exact ha
abbrev PNx (n:Nat) (L:List CQ) (b nn mm how:Int) (q:CQ):Prop:=Pure PP 29 [.ag (aR n L),ni b,ni nn,ni mm,ni how] (.ag (dQ q))
theorem apN_R {b j:Nat} (hbj:b<j) (A B:List (Int×Int)) (hn:(A++B).length≤1000):Ext PP (mkAq 28) [.ow b,.sl (rfs B)] [(b,.rw 79 2 (rfs A))] [(j,.rw 79 2 (rfs (A++B))),(b,.dead)] (.ow j):=
 x_apw (e:= 79) (n:=2) (bytes:=16) (N:=1000) (by kernel_rfl) (by kernel_rfl) hbj (rfs_app A B) (by rw[rfs_len];exact hn) (by kernel_rfl) (rfs_two B)
theorem apN_Z {b j:Nat} (hbj:b<j) (A B:List (Int×Int)) (hn:(A++B).length≤1000):Ext PP (mkAq 28) [.ow b,.sl (rfs B)] [(b,.rw 79 2 (rfs A))] [(j,.dead),(b,.dead)] (.sl (rfs (A++B))):=
 x_apz (e:= 79) (n:=2) (bytes:=16) (N:=1000) (by kernel_rfl) (by kernel_rfl) hbj (rfs_app A B) (by rw[rfs_len];exact hn) (by kernel_rfl) (rfs_two B)
/-- Next: some claim. -/
theorem e_next (ha:Arc n L) (hb:0≤b∧b≤100) (hn:W.Is64 nn) (hm:W.Is64 mm) (hh:W.Is64 how):∃ q:CQ,Sq q∧FBits 100 q.cm.fit∧q.refs.length≤6∧PNx n L b nn mm how q:=by
 have hL:L.length≤1000:=by have:=ha.len;omega
 have cn:=e_content ha (b:=b) hn hm
 obtain⟨g1,g2⟩:=cnt_g ha (b:=b) (sm64 (by omega)) nn mm
 have cl4:(cntQ n L b nn mm).refs.length≤4:=by
  rcases(ctQ_by (b:=b) (kd:=rnd nn 3) (w:=1+rnd mm 8) (R:=ctR n L nn mm) (fitQ (nine nn mm) 0)).2 with h|h
  · show(ctQ b (rnd nn 3) (1+rnd mm 8) (ctR n L nn mm) (fitQ (nine nn mm) 0)).refs.length≤4
    rw[h];exact Nat.zero_le _
  · show(ctQ b (rnd nn 3) (1+rnd mm 8) (ctR n L nn mm) (fitQ (nine nn mm) 0)).refs.length≤4
    rw[h];exact ctR_len ha nn mm
 generalize cntQ n L b nn mm=c at*
 have ch:=e_rchain (n:=n) (b:=b) hL
 have clen:=chn_le L b
 have e20:ni (((chn L b).map dQ).length:Int)=ni ((chn L b).length:Int):=by rw[List.length_map]
 have ck:=e_rclock (n:=n) (L:=L) hL
 have ckb:=clk_le ha n
 rw[←clk_eq ha]at ckb
 have a3:=e_around hm 2
 have r3:=rnd_in mm 2
 have ah:=e_around hh 9
 have rh:=rnd_in how 9
 generalize (chn L b).length=s at*
 generalize rclk L=T at*
 generalize rnd mm 2=r at*
 obtain⟨T',hT⟩:∃ T':Nat,T=(T':Int):=⟨T.toNat,by omega⟩
 subst hT
 have sq1:Sq {c with seq:=(s:Int),tick:=(T':Int)+1+r}:=sq_head g1 (by unfold W.Is64;omega) (by unfold W.Is64;omega)
 unfold PCn at cn
 unfold PNx
 unfold aR slQ at*
 generalize (chn L b).map dQ=CC at*
 generalize L.map dQ=LL at*
 let F0:List F_:=[cl cn,cl ch,.eqv 20 _ _ e20,cl ck,wq 24 ((T':Int)+1) ((T':Int)+1) (by omega),cl a3,wq 27 ((T':Int)+1+r) ((T':Int)+1+r) (by omega),cl ah]
 generalize rnd how 9=h at*
 by_cases h0:h=0
 · subst h0
   have a4:=e_around hm T'
   have r4:=rnd_in mm T'
   generalize rnd mm T'=u at*
   exact⟨{c with seq:=(s:Int),tick:=u},sq_head g1 (by unfold W.Is64;omega) (by unfold W.Is64;omega),g2,by show c.refs.length≤6;omega,tr (F0++[yt,cl ck,wq 36 ((T':Int)+1) ((T'+1:Nat):Int) (by omega),cl a4]) (by kernel_rfl)⟩
 by_cases h1:h=1
 · subst h1
   have a4:=e_around hm (s+1)
   have r4:=rnd_in mm (s+1)
   generalize rnd mm (s+1)=u at*
   exact⟨{c with seq:=u,tick:=(T':Int)+1+r},sq_head g1 (by unfold W.Is64;omega) (by unfold W.Is64;omega),g2,by show c.refs.length≤6;omega,tr (F0++[nf,yt,wq 44 ((s:Int)+2) ((s+1+1:Nat):Int) (by omega),cl a4]) (by kernel_rfl)⟩
 by_cases h2:h=2
 · subst h2
   have a4:=e_around hm 8
   have r4:=rnd_in mm 8
   have d10:=div64 hh (show(0:Int)<10 by decide)
   obtain⟨p,p1,p2,p3,p4⟩:=e_oddQ (q:={c with seq:=(s:Int),tick:=(T':Int)+1+r}) sq1 g2 (by show c.refs.length≤19;omega) d10 (y:=rnd mm 8 - 1) (by unfold W.Is64;omega)
   have p3:p.refs.length≤c.refs.length+1:=p3
   generalize rnd mm 8=u at*
   exact⟨p,p1,p2,by omega,tr (F0++[nf,nf,yt,eq64 51 _ d10,cl a4,wq 54 (u - 1) (u - 1) (by omega),cl p4]) (by kernel_rfl)⟩
 by_cases h3:h=3
 · subst h3
   have w1:=apN_R (b:=3) (j:=4) (by omega) [] c.refs (by rw[List.nil_append];omega)
   rw[List.nil_append]at w1
   have w2:=apN_Z (b:=4) (j:=6) (by omega) c.refs [(4,199)] (by rw[List.length_append];simp only[List.length_cons,List.length_nil];omega)
   refine⟨{c with seq:=(s:Int),tick:=(T':Int)+1+r,refs:=c.refs++[(4,199)]},⟨sq1.h,fun p hp=> ?_,g1.f,g1.q, ?_⟩,g2, ?_,tr (F0++[nf,nf,nf,yt,.eqv 58 (.ow 3) (.ow 3) rfl,.ext (some 61) _ _ _ _ _ w1,.ro,.ext (some 64) _ _ _ _ _ w2]) (by kernel_rfl)⟩
   · rcases List.mem_append.1 hp with hp|hp
     · exact g1.r p hp
     · rw[List.mem_singleton]at hp
       subst hp
       exact⟨sm64 (by decide),sm64 (by decide)⟩
   · show(c.refs++[(4,199)]).length≤20
     rw[List.length_append];simp only[List.length_cons,List.length_nil];omega
   · show(c.refs++[(4,199)]).length≤6
     rw[List.length_append];simp only[List.length_cons,List.length_nil];omega
 · have n0:(h==0)=false:=by simpa using h0
   have n1:(h==1)=false:=by simpa using h1
   have n2:(h==2)=false:=by simpa using h2
   have n3:(h==3)=false:=by simpa using h3
   exact⟨{c with seq:=(s:Int),tick:=(T':Int)+1+r},sq1,g2,by show c.refs.length≤6;omega,tr (F0++[na n0,na n1,na n2,na n3]) (by kernel_rfl)⟩
end
end Go.Proofs.YtmgagedefmmloaaGreatDoor.E.Ca
namespace Go.Proofs.YtmgagedefmmloaaGreatDoor.E.Ca
open Go.RowKit Hs
set_option linter.unusedVariables false
set_option linter.unusedSimpArgs false
section
variable {L C:List CQ} {p:Int×Int} {q r c:CQ} {b t nn mm how by_:Int} {i j k n:Nat} {l m:List Int} {H:List (Int×DG)} {x y:Int×DG}
noncomputable def bH:Nat:=match apT PP TRH with
 |some p=>p.2
 |none=>0
theorem bH_ok:apT PP TRH=some (17,bH):=by kernel_rfl
theorem bH_lim:apLim 2000 bH=true:=by kernel_rfl
theorem hd_all (x:Int×DG):(hdV x).length=17∧(hdV x).all one=true:=⟨rfl,rfl⟩
theorem hds_ok (H:List (Int×DG)):∀ cs∈H.map hdV,cs.length=17∧cs.all one=true:=fun cs h=>by
 obtain⟨x,_,rfl⟩:=List.mem_map.1 h
 exact hd_all x
theorem apH_ {b j:Nat} (hbj:b<j) (A B:List (Int×DG)) (hn:(A++B).length≤2000):Ext PP (mkAq 57) [.ow b,slH B] [(b,.rw TRH 17 (A.map hdV))] [(j,.rw TRH 17 ((A++B).map hdV)),(b,.dead)] (.ow j):=
 x_apw (e:=TRH) (n:=17) (bytes:=bH) (N:=2000) (by kernel_rfl) bH_ok hbj (by rw[List.map_append]) (by rw[List.length_map];exact hn) bH_lim (hds_ok B)
/-- What heads are given to Want. -/
structure Hok (H:List (Int×DG)):Prop where
 ln:H.length≤100
 ct:∀ x∈H,-1000≤x.1∧x.1≤1000
theorem hd_set (h:H[i]? =some x) (y:Int×DG):(H.map hdV).set i (hdV y)=(H.set i y).map hdV:=(List.map_set ..).symm
def upB (W:DG) (j:Nat) (v:UInt8):DG:=fun i=>if i=j then v else W i
theorem u8_inc (c:UInt8):(.k (.int .u8 (IntKind.u8.wrap ((c.toNat:Int)+1))):V)=bv (c+1):=by
 have h:IntKind.u8.wrap ((c.toNat:Int)+1)=((c+1).toNat:Int):=by
  rw[IntKind.wrap_u8,UInt8.toNat_add,show(1:UInt8).toNat=1 from rfl]
  omega
 rw[h]
 rfl
abbrev PB (H:List (Int×DG)) (how by_:Int) (H':List (Int×DG)):Prop:=Pure PP 39 [slH H,ni how,ni by_] (slH H')
/-- Bent heads are some heads. -/
theorem e_bent (hH:Hok H) (hh:W.Is64 how) (hb:W.Is64 by_):∃ H',H'.length≤100∧PB H how by_ H':=by
 have ll:(H.map hdV).length=H.length:=List.length_map ..
 have hn:=hH.ln
 have a1:=apH_ (b:=0) (j:=1) (by omega) [] H (by rw[List.nil_append];omega)
 rw[List.nil_append]at a1
 by_cases h0:H=[]
 · subst h0
   refine⟨[],by simp, ?_⟩
   unfold PB
   unfold slH at*
   exact tr [.ext (some 11) _ _ _ _ _ a1,yt] (by kernel_rfl)
 have hp:0<H.length:=List.length_pos_iff.2 h0
 have ne:((((H.map hdV).length:Nat):Int)==0)=false:=by
  have:((H.map hdV).length:Int)≠0:=by omega
  simpa using this
 have e18:ni ((H.map hdV).length:Int)=ni ((H.length - 1+1:Nat):Int):=by rw[ll];congr 2;omega
 have ar:=e_around hb (H.length - 1)
 have rr:=rnd_in by_ (H.length - 1)
 obtain⟨k,hk⟩:∃ k:Nat,rnd by_ (H.length - 1)=(k:Int):=⟨(rnd by_ (H.length - 1)).toNat,by omega⟩
 rw[hk]at ar rr
 have ah:=e_around hh 5
 have rh:=rnd_in how 5
 obtain⟨x,hx⟩:∃ x,H[k]? =some x:=⟨_,List.getElem?_eq_getElem (by omega)⟩
 have s1:=hd_at hx
 have hc:=hH.ct x (List.mem_of_getElem? hx)
 have d8:=div64 hb (show(0:Int)<8 by decide)
 generalize rnd how 5=h at*
 have hcase:h=0∨h=1∨h=2∨h=3∨h=4∨h=5:=by omega
 let F0:List F_:=[.ext (some 11) _ _ _ _ _ a1,na ne,.eqv 18 _ _ e18,cl ar,cl ah]
 have len:∀ y,(H.set k y).length≤100:=fun y=>by rw[List.length_set];omega
 rcases hcase with rfl|rfl|rfl|rfl|rfl|rfl
 · have tk:(H.map hdV).take k=(H.take k).map hdV:=(List.map_take ..).symm
   refine⟨H.take k,by rw[List.length_take];omega, ?_⟩
   unfold PB
   unfold slH at*
   generalize (H.take k).map hdV=R2 at*
   exact tr (F0++[yt,.trn (H.map hdV) R2 k tk (by omega)]) (by kernel_rfl)
 · have a8:=e_around d8 202
   have r8:=rnd_in (by_.tdiv 8) 202
   have up:=hd_set hx (rnd (by_.tdiv 8) 202 - 1,x.2)
   refine⟨H.set k (rnd (by_.tdiv 8) 202 - 1,x.2),len _, ?_⟩
   generalize rnd (by_.tdiv 8) 202=u at*
   unfold PB
   unfold slH at*
   generalize (H.set k (u - 1,x.2)).map hdV=R2 at*
   exact tr (F0++[nf,yt,eq64 32 _ d8,cl a8,wq 34 (u - 1) (u - 1) (by omega),.sel _ _ _ s1,.upd _ _ _ _ _ s1 up]) (by kernel_rfl)
 · have a8:=e_around d8 15
   have r8:=rnd_in (by_.tdiv 8) 15
   obtain⟨j,hj⟩:∃ j:Nat,rnd (by_.tdiv 8) 15=(j:Int):=⟨(rnd (by_.tdiv 8) 15).toNat,by omega⟩
   rw[hj]at a8 r8
   have up:=hd_set hx (x.1,upB x.2 j (x.2 j+1))
   have e48:=u8_inc (x.2 j)
   refine⟨H.set k (x.1,upB x.2 j (x.2 j+1)),len _, ?_⟩
   unfold PB
   unfold slH at*
   generalize (H.set k (x.1,upB x.2 j (x.2 j+1))).map hdV=R2 at*
   have hj16:j=0∨j=1∨j=2∨j=3∨j=4∨j=5∨j=6∨j=7∨j=8∨j=9∨j=10∨j=11∨j=12∨j=13∨j=14∨j=15:=by omega
   rcases hj16 with rfl|rfl|rfl|rfl|rfl|rfl|rfl|rfl|rfl|rfl|rfl|rfl|rfl|rfl|rfl|rfl<;>exact tr (F0++[nf,nf,yt,eq64 42 _ d8,cl a8,.sel _ _ _ s1,.sel _ _ _ s1,.eqv 48 _ _ e48,.sel _ _ _ s1,.upd _ _ _ _ _ s1 up]) (by kernel_rfl)
 · have up:=hd_set hx (0,zD)
   refine⟨H.set k (0,zD),len _, ?_⟩
   unfold PB
   unfold slH at*
   generalize (H.set k (0,zD)).map hdV=R2 at*
   exact tr (F0++[nf,nf,nf,yt,.sel _ _ _ s1,.upd _ _ _ _ _ s1 up]) (by kernel_rfl)
 · have up:=hd_set hx (x.1+1,x.2)
   refine⟨H.set k (x.1+1,x.2),len _, ?_⟩
   unfold PB
   unfold slH at*
   generalize (H.set k (x.1+1,x.2)).map hdV=R2 at*
   exact tr (F0++[nf,nf,nf,nf,yt,.sel _ _ _ s1,.sel _ _ _ s1,wq 67 (x.1+1) (x.1+1) (by omega),.sel _ _ _ s1,.upd _ _ _ _ _ s1 up]) (by kernel_rfl)
 · refine⟨H,by omega, ?_⟩
   unfold PB
   unfold slH at*
   exact tr (F0++[nf,nf,nf,nf,nf]) (by kernel_rfl)
/-- The claims of an operation. -/
def Cok (l:List CQ):Prop:=(∀ c∈l,Sq c∧FBits 100 c.cm.fit)∧l.length≤1000
theorem Sq.by (h:Sq q) (hb:W.Is64 b):Sq {q with by_:=b}:=by
 have hh:=h.h
 refine⟨fun x hx=> ?_,h.r,h.f,h.q,h.n⟩
 simp only[hdQ,List.mem_cons,List.not_mem_nil,or_false]at hx hh
 rcases hx with rfl|rfl|rfl|rfl|rfl
 · exact hb
 · exact hh _ (.inr (.inl rfl))
 · exact hh _ (.inr (.inr (.inl rfl)))
 · exact hh _ (.inr (.inr (.inr (.inl rfl))))
 · exact hh _ (.inr (.inr (.inr (.inr rfl))))
theorem good_cok (l:List Int):∃ A:List CQ,(goodL l).map dC=A.map dQ∧Cok A:=by
 have h:∀ T:List CM,(∀ c∈T,∃ q,Gq c q∧FB c)→∃ A:List CQ,T.map dC=A.map dQ∧A.length=T.length∧∀ q∈A,Sq q∧FBits 100 q.cm.fit:=by
  intro T
  induction T with
  |nil=>exact fun _=>⟨[],rfl,rfl,fun q h=>(by cases h)⟩
  |cons c r ih=>
   intro h
   obtain⟨A,h1,h2,h3⟩:=ih fun c hc=>h c (List.mem_cons_of_mem _ hc)
   obtain⟨q,⟨e,s⟩,f⟩:=h c (List.mem_cons_self ..)
   refine⟨q::A, ?_,by simp[h2],fun x hx=> ?_⟩
   · rw[List.map_cons,List.map_cons,h1,e];rfl
   · rcases List.mem_cons.1 hx with rfl|hx
     · exact⟨s,by rw[←e];exact f⟩
     · exact h3 x hx
 obtain⟨A,h1,h2,h3⟩:=h (goodL l) fun c hc=>by
  obtain⟨q,hq,_⟩:=all_gq (l:=l) (List.mem_append_right _ hc)
  exact⟨q,hq,good_fb _ c hc⟩
 refine⟨A,h1,h3, ?_⟩
 rw[h2]
 have:=goodL_len l
 omega
abbrev PCl (n:Nat) (L:List CQ) (l:List Int) (op nn mm:Int) (A:List CQ):Prop:=Pure PP 38 [.ag (aR n L),zl l,ni op,ni nn,ni mm] (slQ A)
theorem e_claimsO (ha:Arc n L) (hl:∀ x∈l,W.Is64 x) (hn:W.Is64 nn) (hm:W.Is64 mm) {op:Int} (ho:op=3∨op=4∨op=5∨op=6):∃ A,Cok A∧PCl n L l op nn mm A:=by
 have n1:=ha.n1
 have a1:=e_around hn n
 have r1:=rnd_in nn n
 generalize rnd nn n=u at*
 have hu:W.Is64 u:=by unfold W.Is64;omega
 have a2:=e_around hu (n - 1)
 have r2:=rnd_in u (n - 1)
 rw[show n - 1+1=n by omega]at a2
 have d5:=div64 hn (show(0:Int)<5 by decide)
 have d3:=div64 hn (show(0:Int)<3 by decide)
 obtain⟨q,q1,q2,q3,nq⟩:=e_next ha (b:=rnd u (n - 1)) (by omega) d5 hm hn
 have cl_:=e_rclaims (n:=n) (L:=L) ha.sq (by have:=ha.len;omega)
 obtain⟨G,g1,g2⟩:=good_cok l
 have gd:=e_good hl
 rw[g1]at gd
 have tk:=e_rtake ha (l:=[q]) (fun c hc=>by rw[List.mem_singleton]at hc;subst hc;exact⟨q1,q2⟩) (by simp)
 rw[(tak_one n L q).1]at tk
 have ha2:=tkL_arc ha q1 q2
 have a3:=e_around hm (n - 1)
 have r3:=rnd_in mm (n - 1)
 rw[show n - 1+1=n by omega]at a3
 obtain⟨r,s1,s2,s3,nr⟩:=e_next ha2 (b:=rnd mm (n - 1)) (by omega) hm d3 hm
 have sB:=Sq.by q1 hu
 have sl_:=sorted_le L
 have hlen:=ha.len
 unfold PNx at nq nr
 unfold tD at tk
 generalize rnd u (n - 1)=b1 at*
 generalize rnd mm (n - 1)=b2 at*
 let F0:List F_:=[wq 19 ((n:Int)+1) ((n+1:Nat):Int) (by omega),cl a1,cl a2,eq64 27 _ d5,cl nq]
 rcases ho with rfl|rfl|rfl|rfl
 · refine⟨G,g2, ?_⟩
   unfold PCl aR
   unfold aR slQ at*
   generalize G.map dQ=GG at*
   exact tr (F0++[yt,cl gd]) (by kernel_rfl)
 · refine⟨sorted L,⟨fun c hc=>⟨ha.sq c (sorted_sub hc),ha.fb c (sorted_sub hc)⟩,by omega⟩, ?_⟩
   unfold PCl aR
   unfold aR slQ at*
   generalize (sorted L).map dQ=GG at*
   exact tr (F0++[nf,yt,cl cl_]) (by kernel_rfl)
 · refine⟨[q,r],⟨fun c hc=> ?_,by simp⟩, ?_⟩
   · simp only[List.mem_cons,List.not_mem_nil,or_false]at hc
     rcases hc with rfl|rfl
     · exact⟨q1,q2⟩
     · exact⟨s1,s2⟩
   · unfold PCl aR
     unfold aR slQ at*
     generalize (takL n L [q] 0).2.1=z1 at*
     generalize (takL n L [q] 0).2.2=z2 at*
     generalize (tkL n L q).map dQ=LL2 at*
     exact tr (F0++[nf,nf,yt,cl tk,cl a3,eq64 58 _ d3,cl nr]) (by kernel_rfl)
 · refine⟨[{q with by_:=u}],⟨fun c hc=> ?_,by simp⟩, ?_⟩
   · rw[List.mem_singleton]at hc
     subst hc
     exact⟨sB,q2⟩
   · unfold PCl aR
     unfold aR slQ at*
     exact tr (F0++[nf,nf,nf]) (by kernel_rfl)
/-- Both agree. -/
theorem e_agrees (ha:Arc n L):PureT PP 43 (hA_ (cnts n L) L) [.lp 2 0,.ag (aR n L)] (.io 3 (hA_ (cnts n L) L) (bo true)):=by
 have n1:=ha.n1
 have hlen:=ha.len
 have c1:=e_claims ha (M:=L) fun p=>rfl
 have c2:=e_rclaims (n:=n) (L:=L) ha.sq (by omega)
 have sm:=e_sameAll (sorted L)
 have h1:=e_lheads ha
 have h2:=e_rheads (n:=n) (L:=L) ha.sq (by omega) (by omega)
 have sh:=e_sameH (H:=hdsL n L) (by unfold hdsL;rw[List.length_map,List.length_range];omega)
 have k1:=e_clock ha
 have k2:=e_rclock (n:=n) (L:=L) (by omega)
 rw[clk_eq ha]at k2
 have e22:bo (clkP L n==clkP L n)=bo true:=by simp
 generalize clkP L n=t at*
 generalize hdsL n L=H at*
 unfold hA_ hD_ at*
 unfold aR slQ slH at*
 generalize H.map hdV=HH at*
 generalize (allP L n).map dQ=AA at*
 generalize (sorted L).map dQ=SS at*
 generalize L.map dQ=LL at*
 generalize mpL L=MM at*
 generalize zs (cnts n L)=ZZ at*
 exact trT [.lend _ _ _ _ [0,1,2] c1,cl c2,cl sm,yt,.lend _ _ _ _ [0,1,2] h1,cl h2,cl sh,yt,.lend _ _ _ _ [0,1,2] k1,cl k2,.eqv 22 _ _ e22] (by kernel_rfl)
end
end Go.Proofs.YtmgagedefmmloaaGreatDoor.E.Ca
namespace Go.Proofs.YtmgagedefmmloaaGreatDoor
open Go.RowKit
theorem is64_of {n:Int} (h:(Lit.int .i64 n).wf=true):W.Is64 n:=by
 have:=bounds_i64 h
 unfold W.Is64
 omega
end Go.Proofs.YtmgagedefmmloaaGreatDoor
namespace Go.Proofs.YtmgagedefmmloaaGreatDoor.E
open Go.RowKit
set_option linter.unusedVariables false
theorem cb_of {w:World} {b o:Nat} {v:Value} (h:w.cell? ⟨b,o,none⟩=some v):CB w b:=by
 unfold World.cell? at h
 split at h
 · rename_i cs T fr hb
   exact⟨cs,T,fr,hb⟩
 · cases h
def Rt (X:World→Value→Prop) (w:World) (e:Ending) (w':World):Prop:=∃ v,e= .returned v∧X w' v∧Below w.heap.size w w'
theorem back {P:Program} {f:FuncId} {ds:List V} {d:V} (h:Pure P f ds d) {w:World} {args:Array Value} (ha:Reps w (fun _=>False) no args ds):Calls P f args w (Rt (fun w v=>Rep w (fun _=>False) no v d) w):=
 (h.2 w (fun _=>False) args (fun _ h=>h.elim) ha).mono fun e w' h=>h
theorem to_tt {w w':World} {e:Ending} (h:Rt (fun w v=>Rep w (fun _=>False) no v (bo true)) w e w'):e= .returned (.bool true)∧Below w.heap.size w w':=by
 obtain⟨v,rfl,h1,h2⟩:=h
 exact⟨by rw[Rep.k_inv h1],h2⟩
/-- A law of any arguments. -/
theorem lawG {f:FuncId} {us:List Value} {ds:List V} {w:World} (h:Pure PP f ds (bo true)) (hg:Glo w (fun _=>False)) (hl:us.length=ds.length) (hr:∀ j,j<ds.length→Rep w (fun _=>False) no (us.getD j undef) (ds.getD j .un)):
    Calls PP f us.toArray w fun e w'=>e= .returned (.bool true)∧Below w.heap.size w w':=
 (back h (reps_of hl hg hr)).mono fun _ _=>to_tt
theorem all3 {p:Nat→Prop} (h0:p 0) (h1:p 1) (h2:p 2):∀ j,j<3→p j:=fun j hj=>by
 match j,hj with
 |0,_=>exact h0
 |1,_=>exact h1
 |2,_=>exact h2
end Go.Proofs.YtmgagedefmmloaaGreatDoor.E
