/-
 ARGUMENTS OF A LAW, of any type without maps and interfaces: what they stand for.
-/
import Derived.Test.YtmgagedefmmloaaGreatDoorLawO
import Derived.OpenShut
import Derived.Carry
namespace Go.Proofs.YtmgagedefmmloaaGreatDoor.E.Ca
open Go.RowKit Hs
set_option linter.unusedVariables false
set_option linter.unusedSimpArgs false
section
variable {L C A:List CQ} {p:Int×Int} {q r c:CQ} {b t nn mm how by_ mus:Int} {i j n:Nat} {l k:List Int} {H:List (Int×DG)} {x y:Int×DG}
abbrev pN:V:= .k (.pointer none)
def q0_:CQ:=⟨0,0,0,0,[],zQ,0⟩
theorem c0_q:dQ q0_=dC c0:=by unfold dQ CQ.cm q0_;rw[zQ_fm]
theorem nil_make (w:Int):Pure PP 36 [pN,.ag (dC ⟨0,0,0,0,[],zF,w⟩)] (.tu [.ag (dC c0),ni 1]):=tr [yt,yt,yt] (by kernel_rfl)
theorem nil_want:Pure PP 14 [pN,.sl []] (.tu [.sl [],ni 1]):=tr [yt,yt] (by kernel_rfl)
theorem nil_take:Pure PP 16 [pN,.sl []] (.tu [ni 0,ni 1]):=tr [yt] (by kernel_rfl)
theorem nil_heads:Pure PP 15 [pN] (.sl []):=tr [yt] (by kernel_rfl)
theorem nil_claims:Pure PP 18 [pN] (.sl []):=tr [yt] (by kernel_rfl)
theorem nil_clock:Pure PP 44 [pN] (ni 0):=tr [yt] (by kernel_rfl)
theorem nil_copy:Pure PP 45 [pN] pN:=tr [yt] (by kernel_rfl)
theorem sameC0:Pure PP 37 [.ag (dC c0),.ag (dC c0)] (bo true):=by
 have h:=e_csame6 q0_ q0_
 rw[decide_eq_true (eqP_iff.2 rfl),c0_q]at h
 exact h
theorem sameQ (q:CQ):Pure PP 37 [.ag (dQ q),.ag (dQ q)] (bo true):=by
 have h:=e_csame6 q q
 rw[decide_eq_true (eqP_iff.2 rfl)]at h
 exact h
noncomputable abbrev fDo:Func:=fnOf PP 6
abbrev GDo (td:List Item) (σ:St):Prop:=Gd PP 6 (bo true) td σ
noncomputable abbrev hF_ (n:Nat) (L:List CQ):List HO:=[.bx TRA (aR n L),.rw TI 1 (zs (cnts n L)),.mp (mpL L),.bx TArc [.ow 1,.nm 2]]
noncomputable def dS (l k:List Int) (n:Nat) (L:List CQ) (i:Nat):St:=at_ fDo [(1,zl l),(2,zl k),(9,.lp 0 0),(10,.lp 3 0),(12,ni i)] (hF_ n L)
/-- The end. -/
noncomputable def doF:List F_:=[cl (nil_make 1),cl nil_want,cl nil_take,yt,yt,yt,cl nil_heads,cl nil_claims,cl nil_clock,yt,cl nil_copy,yt,cl e_lives40]
theorem do_end (hi:i≤10) (hk:k.length≤9223372036854775807) (h:¬(3*i+2<k.length∧i<10)):GDo (lp fDo 0) (dS l k n L i):=by
 have lz:(zs k).length=k.length:=List.length_map ..
 have e89:ni ((zs k).length:Int)=ni (k.length:Int):=by rw[lz]
 unfold dS hF_ aR slQ
 generalize L.map dQ=LL at*
 generalize mpL L=MM at*
 by_cases h2:3*i+2<k.length
 · have lt:decide (((3*i+2:Nat):Int)<(k.length:Int))=true:=decide_eq_true (by omega)
   have lt2:decide ((i:Int)<10)=false:=decide_eq_false (by omega)
   exact fi ([wq 86 (3*(i:Int)) ((3*i:Nat):Int) (by omega),wq 87 (((3*i:Nat):Int)+2) ((3*i+2:Nat):Int) (by omega),.eqv 89 _ _ e89,ye lt,na lt2]++doF) (by kernel_rfl) (by kernel_rfl)
 · have lt:decide (((3*i+2:Nat):Int)<(k.length:Int))=false:=decide_eq_false (by omega)
   exact fi ([wq 86 (3*(i:Int)) ((3*i:Nat):Int) (by omega),wq 87 (((3*i:Nat):Int)+2) ((3*i+2:Nat):Int) (by omega),.eqv 89 _ _ e89,na lt,nf]++doF) (by kernel_rfl) (by kernel_rfl)
/-- The head of a round: up to the operation. -/
noncomputable def doH (i:Nat) (hi:i<10) (k:List Int) (lt:decide (((3*i+2:Nat):Int)<(k.length:Int))=true) (lt2:decide ((i:Int)<10)=true) (e89:ni ((zs k).length:Int)=ni (k.length:Int)) {y1 y2 op:Int}
 (c1:Pure PP 30 [zl k,ni ((3*i+1:Nat):Int),ni ((1048575+1:Nat):Int)] (ni y1)) (c2:Pure PP 30 [zl k,ni ((3*i+2:Nat):Int),ni ((1048575+1:Nat):Int)] (ni y2)) (c3:Pure PP 30 [zl k,ni ((3*i:Nat):Int),ni ((8+1:Nat):Int)] (ni op)):List F_:=
 [wq 86 (3*(i:Int)) ((3*i:Nat):Int) (by omega),wq 87 (((3*i:Nat):Int)+2) ((3*i+2:Nat):Int) (by omega),.eqv 89 _ _ e89,ye lt,ye lt2,wq 99 (3*(i:Int)) ((3*i:Nat):Int) (by omega),wq 100 (((3*i:Nat):Int)+1) ((3*i+1:Nat):Int) (by omega),cl c1,
  wq 104 (3*(i:Int)) ((3*i:Nat):Int) (by omega),wq 105 (((3*i:Nat):Int)+2) ((3*i+2:Nat):Int) (by omega),cl c2,wq 109 (3*(i:Int)) ((3*i:Nat):Int) (by omega),cl c3]
theorem do_make (ha:Arc n L) (hi:i<10) (lt:decide (((3*i+2:Nat):Int)<(k.length:Int))=true) (lt2:decide ((i:Int)<10)=true) (e89:ni ((zs k).length:Int)=ni (k.length:Int)) {y1 y2 op:Int} (h1:W.Is64 y1) (h2:W.Is64 y2) (hop:op=0∨op=1∨op=2)
 (c1:Pure PP 30 [zl k,ni ((3*i+1:Nat):Int),ni ((1048575+1:Nat):Int)] (ni y1)) (c2:Pure PP 30 [zl k,ni ((3*i+2:Nat):Int),ni ((1048575+1:Nat):Int)] (ni y2)) (c3:Pure PP 30 [zl k,ni ((3*i:Nat):Int),ni ((8+1:Nat):Int)] (ni op))
 (next:∀ L',Arc n L'→GDo (lp fDo 0) (dS l k n L' (i+1))):GDo (lp fDo 0) (dS l k n L i):=by
 have n1:=ha.n1
 have ar:=e_around h1 (n+1)
 have rr:=rnd_in y1 (n+1)
 have d5:=div64 h1 (show(0:Int)<5 by decide)
 generalize rnd y1 (n+1)=u at*
 have main:∀ o2:Int,(o2=0∨o2=1)→∀ S:List F_,(∀ b:Int,b=u - o2→∀ c:CQ,PCn n L b (y1.tdiv 5) y2 c→∀ L' e,((e=0∧PM (cnts n L) L c (.io 3 (hA_ (cnts n L') L') (.tu [.ag (dQ (mkQ n L c)),ni 0]))∧PRM n L c (mD n L' (dQ (mkQ n L c)) 0))∨(e≠0∧PM (cnts n L) L c (.io 3 (hA_ (cnts n L') L') (.tu [.ag zlC,ni e]))∧PRM n L c (mD n L' (dC c0) e)))→PureT PP 43 (hA_ (cnts n L') L') [.lp 2 0,.ag (aR n L')] (.io 3 (hA_ (cnts n L') L') (bo true))→GDo (lp fDo 0) (dS l k n L' (i+1))→GDo (lp fDo 0) (dS l k n L i))→GDo (lp fDo 0) (dS l k n L i):=by
  intro o2 ho S hS
  have hb:W.Is64 (u - o2):=by unfold W.Is64;omega
  have cn:=e_content ha (b:=u - o2) d5 h2
  obtain⟨g1,g2⟩:=cnt_g ha hb (y1.tdiv 5) y2
  have pm:=e_makeA ha g1 g2
  have rm:=e_rmake ha g1 g2
  have ha2:=mkL_arc ha g1 g2
  have ag:=e_agrees ha2
  refine hS (u - o2) rfl _ cn (mkL n L (cntQ n L (u - o2) (y1.tdiv 5) y2)) (mkE n L (cntQ n L (u - o2) (y1.tdiv 5) y2)) ?_ ag (next _ ha2)
  by_cases h0:mkE n L (cntQ n L (u - o2) (y1.tdiv 5) y2)=0
  · left
    have e1:mkV n L (cntQ n L (u - o2) (y1.tdiv 5) y2)=dQ (mkQ n L (cntQ n L (u - o2) (y1.tdiv 5) y2)):=if_pos h0
    have e2:mkW n L (cntQ n L (u - o2) (y1.tdiv 5) y2)=dQ (mkQ n L (cntQ n L (u - o2) (y1.tdiv 5) y2)):=if_pos h0
    rw[e1,h0]at pm
    rw[e2,h0]at rm
    exact⟨h0,pm,rm⟩
  · right
    have e1:mkV n L (cntQ n L (u - o2) (y1.tdiv 5) y2)=zlC:=if_neg h0
    have e2:mkW n L (cntQ n L (u - o2) (y1.tdiv 5) y2)=dC c0:=if_neg h0
    rw[e1]at pm
    rw[e2]at rm
    exact⟨h0,pm,rm⟩
 rcases hop with rfl|rfl|rfl
 · refine main 0 (.inl rfl) [] fun b hb c cn L' e hc ag g=> ?_
   subst hb
   rcases hc with⟨rfl,pm,rm⟩|⟨h0,pm,rm⟩
   · have sm:=sameQ (mkQ n L c)
     unfold PCn at cn
     unfold PM at pm
     unfold PRM mD at rm
     unfold dS hF_ at g⊢
     unfold hA_ at*
     unfold aR slQ at*
     generalize L'.map dQ=LL2 at*
     generalize mpL L'=MM2 at*
     generalize zs (cnts n L')=ZZ2 at*
     generalize zs (cnts n L)=ZZ at*
     exact .to mo_ [] [1,2,9,10,12] [0,1,2,3] 4 (doH i hi k lt lt2 e89 c1 c2 c3++[yt,yt,wq 147 ((n:Int)+2) ((n+1+1:Nat):Int) (by omega),cl ar,wq 150 (Int.tdiv 0 2) 0 (by decide),wq 151 (u - 0) (u - 0) (by omega),eq64 153 _ d5,cl cn,.lend _ _ _ _ [1,2,3] pm,cl rm,nf,cl sm,nf,.lend _ _ _ _ [1,2,3] ag,nf,inc 96 i (by omega)]) g (by kernel_rfl)
   · have ne:(e != e)=false:=by simp
     unfold PCn at cn
     unfold PM at pm
     unfold PRM mD at rm
     unfold dS hF_ at g⊢
     unfold hA_ at*
     unfold aR slQ at*
     generalize L'.map dQ=LL2 at*
     generalize mpL L'=MM2 at*
     generalize zs (cnts n L')=ZZ2 at*
     generalize zs (cnts n L)=ZZ at*
     exact .to mo_ [] [1,2,9,10,12] [0,1,2,3] 4 (doH i hi k lt lt2 e89 c1 c2 c3++[yt,yt,wq 147 ((n:Int)+2) ((n+1+1:Nat):Int) (by omega),cl ar,wq 150 (Int.tdiv 0 2) 0 (by decide),wq 151 (u - 0) (u - 0) (by omega),eq64 153 _ d5,cl cn,.lend _ _ _ _ [1,2,3] pm,cl rm,na ne,cl sameC0,nf,.lend _ _ _ _ [1,2,3] ag,nf,inc 96 i (by omega)]) g (by kernel_rfl)
 · refine main 0 (.inl rfl) [] fun b hb c cn L' e hc ag g=> ?_
   subst hb
   rcases hc with⟨rfl,pm,rm⟩|⟨h0,pm,rm⟩
   · have sm:=sameQ (mkQ n L c)
     unfold PCn at cn
     unfold PM at pm
     unfold PRM mD at rm
     unfold dS hF_ at g⊢
     unfold hA_ at*
     unfold aR slQ at*
     generalize L'.map dQ=LL2 at*
     generalize mpL L'=MM2 at*
     generalize zs (cnts n L')=ZZ2 at*
     generalize zs (cnts n L)=ZZ at*
     exact .to mo_ [] [1,2,9,10,12] [0,1,2,3] 4 (doH i hi k lt lt2 e89 c1 c2 c3++[nf,yt,yt,wq 147 ((n:Int)+2) ((n+1+1:Nat):Int) (by omega),cl ar,wq 150 (Int.tdiv 1 2) 0 (by decide),wq 151 (u - 0) (u - 0) (by omega),eq64 153 _ d5,cl cn,.lend _ _ _ _ [1,2,3] pm,cl rm,nf,cl sm,nf,.lend _ _ _ _ [1,2,3] ag,nf,inc 96 i (by omega)]) g (by kernel_rfl)
   · have ne:(e != e)=false:=by simp
     unfold PCn at cn
     unfold PM at pm
     unfold PRM mD at rm
     unfold dS hF_ at g⊢
     unfold hA_ at*
     unfold aR slQ at*
     generalize L'.map dQ=LL2 at*
     generalize mpL L'=MM2 at*
     generalize zs (cnts n L')=ZZ2 at*
     generalize zs (cnts n L)=ZZ at*
     exact .to mo_ [] [1,2,9,10,12] [0,1,2,3] 4 (doH i hi k lt lt2 e89 c1 c2 c3++[nf,yt,yt,wq 147 ((n:Int)+2) ((n+1+1:Nat):Int) (by omega),cl ar,wq 150 (Int.tdiv 1 2) 0 (by decide),wq 151 (u - 0) (u - 0) (by omega),eq64 153 _ d5,cl cn,.lend _ _ _ _ [1,2,3] pm,cl rm,na ne,cl sameC0,nf,.lend _ _ _ _ [1,2,3] ag,nf,inc 96 i (by omega)]) g (by kernel_rfl)
 · refine main 1 (.inr rfl) [] fun b hb c cn L' e hc ag g=> ?_
   subst hb
   rcases hc with⟨rfl,pm,rm⟩|⟨h0,pm,rm⟩
   · have sm:=sameQ (mkQ n L c)
     unfold PCn at cn
     unfold PM at pm
     unfold PRM mD at rm
     unfold dS hF_ at g⊢
     unfold hA_ at*
     unfold aR slQ at*
     generalize L'.map dQ=LL2 at*
     generalize mpL L'=MM2 at*
     generalize zs (cnts n L')=ZZ2 at*
     generalize zs (cnts n L)=ZZ at*
     exact .to mo_ [] [1,2,9,10,12] [0,1,2,3] 4 (doH i hi k lt lt2 e89 c1 c2 c3++[nf,nf,yt,wq 147 ((n:Int)+2) ((n+1+1:Nat):Int) (by omega),cl ar,wq 150 (Int.tdiv 2 2) 1 (by decide),wq 151 (u - 1) (u - 1) (by omega),eq64 153 _ d5,cl cn,.lend _ _ _ _ [1,2,3] pm,cl rm,nf,cl sm,nf,.lend _ _ _ _ [1,2,3] ag,nf,inc 96 i (by omega)]) g (by kernel_rfl)
   · have ne:(e != e)=false:=by simp
     unfold PCn at cn
     unfold PM at pm
     unfold PRM mD at rm
     unfold dS hF_ at g⊢
     unfold hA_ at*
     unfold aR slQ at*
     generalize L'.map dQ=LL2 at*
     generalize mpL L'=MM2 at*
     generalize zs (cnts n L')=ZZ2 at*
     generalize zs (cnts n L)=ZZ at*
     exact .to mo_ [] [1,2,9,10,12] [0,1,2,3] 4 (doH i hi k lt lt2 e89 c1 c2 c3++[nf,nf,yt,wq 147 ((n:Int)+2) ((n+1+1:Nat):Int) (by omega),cl ar,wq 150 (Int.tdiv 2 2) 1 (by decide),wq 151 (u - 1) (u - 1) (by omega),eq64 153 _ d5,cl cn,.lend _ _ _ _ [1,2,3] pm,cl rm,na ne,cl sameC0,nf,.lend _ _ _ _ [1,2,3] ag,nf,inc 96 i (by omega)]) g (by kernel_rfl)
theorem hds_hok (ha:Arc n L):Hok (hdsL n L):=by
 have n1:=ha.n1
 refine⟨by unfold hdsL;rw[List.length_map,List.length_range];omega,fun x hx=> ?_⟩
 unfold hdsL at hx
 obtain⟨j,_,rfl⟩:=List.mem_map.1 hx
 have:=chn_le L (j:Int)
 have:=ha.len
 show(-1000:Int)≤((chn L (j:Int)).length:Int)∧((chn L (j:Int)).length:Int)≤1000
 omega
theorem do_take (ha:Arc n L) (hl:∀ x∈l,W.Is64 x) (hi:i<10) (lt:decide (((3*i+2:Nat):Int)<(k.length:Int))=true) (lt2:decide ((i:Int)<10)=true) (e89:ni ((zs k).length:Int)=ni (k.length:Int)) {y1 y2 op:Int} (h1:W.Is64 y1) (h2:W.Is64 y2) (hop:op=3∨op=4∨op=5∨op=6)
 (c1:Pure PP 30 [zl k,ni ((3*i+1:Nat):Int),ni ((1048575+1:Nat):Int)] (ni y1)) (c2:Pure PP 30 [zl k,ni ((3*i+2:Nat):Int),ni ((1048575+1:Nat):Int)] (ni y2)) (c3:Pure PP 30 [zl k,ni ((3*i:Nat):Int),ni ((8+1:Nat):Int)] (ni op))
 (next:∀ L',Arc n L'→GDo (lp fDo 0) (dS l k n L' (i+1))):GDo (lp fDo 0) (dS l k n L i):=by
 obtain⟨A,hA,cA⟩:=e_claimsO ha hl h1 h2 hop
 have pt:=e_takeL ha (l:=A) hA.1 (by have:=hA.2;omega)
 have rt:=e_rtake ha (l:=A) hA.1 (by have:=hA.2;omega)
 have ha2:Arc n (takL n L A 0).1:=takL_arc A L 0 ha hA.1
 have ag:=e_agrees ha2
 have g:=next _ ha2
 generalize takL n L A 0=T at*
 obtain⟨L',m',e'⟩:=T
 simp only at*
 have ne:(e' != e')=false:=by simp
 have nm:(m' != m')=false:=by simp
 unfold PCl at cA
 unfold tD at rt
 unfold dS hF_ at g⊢
 unfold hA_ at*
 unfold aR slQ at*
 generalize A.map dQ=AA at*
 generalize L'.map dQ=LL2 at*
 generalize mpL L'=MM2 at*
 generalize zs (cnts n L')=ZZ2 at*
 generalize zs (cnts n L)=ZZ at*
 rcases hop with rfl|rfl|rfl|rfl
 · exact .to mo_ [] [1,2,9,10,12] [0,1,2,3] 4 (doH i hi k lt lt2 e89 c1 c2 c3++[nf,nf,nf,yt,yt,cl cA,.lend _ _ _ _ [1,2,3] pt,cl rt,na ne,na nm,.lend _ _ _ _ [1,2,3] ag,nf,inc 96 i (by omega)]) g (by kernel_rfl)
 · exact .to mo_ [] [1,2,9,10,12] [0,1,2,3] 4 (doH i hi k lt lt2 e89 c1 c2 c3++[nf,nf,nf,nf,yt,yt,cl cA,.lend _ _ _ _ [1,2,3] pt,cl rt,na ne,na nm,.lend _ _ _ _ [1,2,3] ag,nf,inc 96 i (by omega)]) g (by kernel_rfl)
 · exact .to mo_ [] [1,2,9,10,12] [0,1,2,3] 4 (doH i hi k lt lt2 e89 c1 c2 c3++[nf,nf,nf,nf,nf,yt,yt,cl cA,.lend _ _ _ _ [1,2,3] pt,cl rt,na ne,na nm,.lend _ _ _ _ [1,2,3] ag,nf,inc 96 i (by omega)]) g (by kernel_rfl)
 · exact .to mo_ [] [1,2,9,10,12] [0,1,2,3] 4 (doH i hi k lt lt2 e89 c1 c2 c3++[nf,nf,nf,nf,nf,nf,yt,cl cA,.lend _ _ _ _ [1,2,3] pt,cl rt,na ne,na nm,.lend _ _ _ _ [1,2,3] ag,nf,inc 96 i (by omega)]) g (by kernel_rfl)
theorem do_want (ha:Arc n L) (hi:i<10) (lt:decide (((3*i+2:Nat):Int)<(k.length:Int))=true) (lt2:decide ((i:Int)<10)=true) (e89:ni ((zs k).length:Int)=ni (k.length:Int)) {y1 y2 op:Int} (h1:W.Is64 y1) (h2:W.Is64 y2) (hop:op=7∨op=8)
 (c1:Pure PP 30 [zl k,ni ((3*i+1:Nat):Int),ni ((1048575+1:Nat):Int)] (ni y1)) (c2:Pure PP 30 [zl k,ni ((3*i+2:Nat):Int),ni ((1048575+1:Nat):Int)] (ni y2)) (c3:Pure PP 30 [zl k,ni ((3*i:Nat):Int),ni ((8+1:Nat):Int)] (ni op))
 (next:GDo (lp fDo 0) (dS l k n L (i+1))):GDo (lp fDo 0) (dS l k n L i):=by
 have n1:=ha.n1
 have hlen:=ha.len
 have hd:=e_rheads (n:=n) (L:=L) ha.sq (by omega) (by omega)
 obtain⟨H,hH,bn⟩:=e_bent (hds_hok ha) h1 h2
 have ow:=e_ownH (H:=H) (by omega)
 have rw_:=e_rwant ha (H:=H) (by omega)
 have ag:=e_agrees ha
 have g:=next
 generalize hdsL n L=HD at*
 unfold PB at bn
 unfold PRW wD at rw_
 by_cases h0:wantE n L H=0
 · have pw:=e_want0 ha (H:=H) (by omega) h0
   have eW:wantW n L H=kpt (knwn H) (sorted L):=if_pos h0
   have sm:=e_sameAll (kpt (knwn H) (sorted L))
   rw[eW,h0]at rw_
   unfold PW wR at pw
   unfold dS hF_ at g⊢
   unfold hA_ at*
   unfold aR slH slQ at*
   generalize (kpt (knwn H) (sorted L)).map dQ=WW at*
   generalize H.map hdV=HH at*
   generalize L.map dQ=LL at*
   generalize mpL L=MM at*
   generalize zs (cnts n L)=ZZ at*
   rcases hop with rfl|rfl<;>exact .to mo_ [] [1,2,9,10,12] [0,1,2,3] 4 (doH i hi k lt lt2 e89 c1 c2 c3++[nf,nf,nf,nf,nf,nf,nf,cl hd,cl bn,cl ow,.lend _ _ _ _ [1,2,3] pw,cl rw_,nf,cl sm,nf,.lend _ _ _ _ [1,2,3] ag,nf,inc 96 i (by omega)]) g (by kernel_rfl)
 · have pw:=e_wantE ha (H:=H) (by omega) h0
   have eW:wantW n L H=[]:=if_neg h0
   have sm:=e_sameAll []
   rw[eW]at rw_
   generalize wantE n L H=e at*
   have ne:(e != e)=false:=by simp
   unfold PW wE at pw
   unfold dS hF_ at g⊢
   unfold hA_ at*
   unfold aR slH slQ at*
   generalize H.map hdV=HH at*
   generalize L.map dQ=LL at*
   generalize mpL L=MM at*
   generalize zs (cnts n L)=ZZ at*
   rcases hop with rfl|rfl<;>exact .to mo_ [] [1,2,9,10,12] [0,1,2,3] 4 (doH i hi k lt lt2 e89 c1 c2 c3++[nf,nf,nf,nf,nf,nf,nf,cl hd,cl bn,cl ow,.lend _ _ _ _ [1,2,3] pw,cl rw_,na ne,cl sm,nf,.lend _ _ _ _ [1,2,3] ag,nf,inc 96 i (by omega)]) g (by kernel_rfl)
theorem do_loop (ha:Arc n L) (hl:∀ x∈l,W.Is64 x) (hk:∀ x∈k,W.Is64 x) (hkl:k.length≤9223372036854775807):GDo (lp fDo 0) (dS l k n L 0):=by
 have lz:(zs k).length=k.length:=List.length_map ..
 have e89:ni ((zs k).length:Int)=ni (k.length:Int):=by rw[lz]
 refine Gd.loop (fun x:Nat×List CQ=>dS l k n x.2 x.1) (fun x=>x.1≤10∧Arc n x.2) (fun x=>10 - x.1) ?_ (0,L) ⟨Nat.zero_le _,ha⟩
 rintro ⟨i,L⟩ ⟨hi,ha⟩ ih
 simp only at hi ha ih
 by_cases h:3*i+2<k.length∧i<10
 · have lt:decide (((3*i+2:Nat):Int)<(k.length:Int))=true:=decide_eq_true (by omega)
   have lt2:decide ((i:Int)<10)=true:=decide_eq_true (by omega)
   have c1:=e_at hk (3*i+1) 1048575
   have c2:=e_at hk (3*i+2) 1048575
   have c3:=e_at hk (3*i) 8
   have r1:=atz_in k (3*i+1) 1048575
   have r2:=atz_in k (3*i+2) 1048575
   have r3:=atz_in k (3*i) 8
   have nx:∀ L',Arc n L'→GDo (lp fDo 0) (dS l k n L' (i+1)):=fun L' h'=>ih (i+1,L') ⟨by omega,h'⟩ (by simp only;omega)
   have w1:W.Is64 (atz k (3*i+1) 1048575):=by unfold W.Is64;omega
   have w2:W.Is64 (atz k (3*i+2) 1048575):=by unfold W.Is64;omega
   generalize atz k (3*i+1) 1048575=y1 at*
   generalize atz k (3*i+2) 1048575=y2 at*
   generalize atz k (3*i) 8=op at*
   by_cases h3:op<3
   · exact do_make ha h.2 lt lt2 e89 w1 w2 (by omega) c1 c2 c3 nx
   · by_cases h7:op<7
     · exact do_take ha hl h.2 lt lt2 e89 w1 w2 (by omega) c1 c2 c3 nx
     · exact do_want ha h.2 lt lt2 e89 w1 w2 (by omega) c1 c2 c3 (nx L ha)
 · exact do_end hi hkl h
noncomputable def d4 (mus:Int) (l k:List Int):St:=at_ fDo [(0,ni mus),(1,zl l),(2,zl k)] []
theorem do_4 (hm:W.Is64 mus) (hl:∀ x∈l,W.Is64 x) (hk:∀ x∈k,W.Is64 x) (hkl:k.length≤9223372036854775807):GDo (rg fDo 4) (d4 mus l k):=by
 have ar:=e_around hm 2
 have rr:=rnd_in mus 2
 obtain⟨n,hn⟩:∃ n:Nat,1+rnd mus 2=(n:Int):=⟨(1+rnd mus 2).toNat,by omega⟩
 have n1:1≤n∧n≤5:=by omega
 have nw:=e_newN n1
 have g:=do_loop (Arc.nil n1) hl hk hkl
 generalize rnd mus 2=u at*
 unfold dS hF_ aR slQ at g
 unfold d4
 unfold hA_ at nw
 exact .to mo_ [.wk 0] [1,2,9,10,12] [0,1,2,3] 4 [cl ar,wq 71 (1+u) (n:Int) (by omega),.lend _ _ _ _ [] nw,nf,pnA 83 3,nf] g (by kernel_rfl)
/-- **ArchiveDoes.** -/
theorem l_does (hm:W.Is64 mus) (hl:∀ x∈l,W.Is64 x) (hk:∀ x∈k,W.Is64 x):Pure PP 6 [ni mus,zl l,zl k] (bo true):=by
 refine .len 2 (l:=zs k) (by kernel_rfl) rfl fun hml=> ?_
 rw[show(zs k).length=k.length from List.length_map ..]at hml
 unfold maxLen at hml
 have g:=do_4 hm hl hk (by omega)
 unfold d4 at g
 by_cases h1:mus≥1
 · have d1:decide (mus≥1)=true:=decide_eq_true h1
   by_cases h5:mus≤5
   · obtain⟨n,hn⟩:∃ n:Nat,mus=(n:Int):=⟨mus.toNat,by omega⟩
     subst hn
     have nw:=e_newN (n:=n) (by omega)
     have d5:(true != decide ((n:Int)≤5))=false:=by rw[decide_eq_true h5];rfl
     unfold hA_ at nw
     generalize mpL []=MM at*
     generalize zs (cnts n [])=ZZ at*
     exact pf (by kernel_rfl) (.to mo_ [] [0,1,2] [] 0 [.lend _ _ _ _ [] nw,ye d1,na d5,pnA 56 2,nf,nf,nf] g (by kernel_rfl))
   · have nb:=e_newBad mus (.inr (by omega))
     have d5:(false != decide (mus≤5))=false:=by rw[decide_eq_false h5];rfl
     exact pf (by kernel_rfl) (.to mo_ [] [0,1,2] [] 0 [cl nb,ye d1,na d5,nf,yt,nf] g (by kernel_rfl))
 · have nb:=e_newBad mus (.inl (by omega))
   have d1:decide (mus≥1)=false:=decide_eq_false h1
   exact pf (by kernel_rfl) (.to mo_ [] [0,1,2] [] 0 [cl nb,na d1,nf,nf,yt,nf] g (by kernel_rfl))
end
end Go.Proofs.YtmgagedefmmloaaGreatDoor.E.Ca
namespace Go.Proofs.YtmgagedefmmloaaGreatDoor.E
open Go.RowKit
set_option linter.unusedVariables false
/-- The cells of a type. -/
inductive Sh where
 |bb
 |ii (k:IntKind)
 |ss
 |row (e:List Sh)
def shapeF (g:TypeId→Option (List Sh)) (c:TypeId→Nat):Nat→List Field→Option (List Sh)
 |_,[]=>some []
 |o,f::r=>match g f.type,shapeF g c (o+c f.type) r with
   |some l,some m=>match Nat.beq f.offset o&&Nat.beq l.length (c f.type)with
     |true=>some (l++m)
     |false=>none
   |_,_=>none
def shape (P:Program):Nat→TypeId→Option (List Sh)
 |0,_=>none
 | n + 1, t => match P.underlying t with
   |some .bool=>some [.bb]
   |some (.int k)=>some [.ii k]
   |some .string=>some [.ss]
   |some (.slice e)=>match shape P n e with
     |some l=>match Nat.beq l.length (P.cellsOf e)&&Nat.blt 0 l.length with
       |true=>some [.row l]
       |false=>none
     |none=>none
   |some (.struct fs)=>match shapeF (shape P n) P.cellsOf 0 fs.toList with
     |some l=>match Nat.beq l.length (P.cellsOf t)with
       |true=>some l
       |false=>none
     |none=>none
   |_=>none
/-- What stands in such a cell. -/
inductive Fit:Sh→V→Prop
 |b (x:Bool):Fit .bb (.k (.bool x))
 |i (k:IntKind) (n:Int) (h:(Lit.int k n).wf=true):Fit (.ii k) (.k (.int k n))
 |s (x:ByteArray) (h:x.size≤maxLen):Fit .ss (.k (.string x))
 |row (e:List Sh) (l:List (List V)) (h0:l.length≤maxLen) (h1:∀ cs∈l,cs.length=e.length) (h2:∀ cs∈l,∀ (j:Nat) (sh:Sh) (x:V),e[j]? =some sh→cs[j]? =some x→Fit sh x):Fit (.row e) (.sl l)
def FitL (e:List Sh) (xs:List V):Prop:=xs.length=e.length∧∀ (j:Nat) (sh:Sh) (x:V),e[j]? =some sh→xs[j]? =some x→Fit sh x
abbrev FA:Nat→Prop:=fun _=>False
def RepL (w:World) (cs:List Value) (xs:List V):Prop:=∀ (j:Nat) (v:Value) (d:V),cs[j]? =some v→xs[j]? =some d→Rep w FA no v d
theorem FitL.nil:FitL [] []:=⟨rfl,fun j sh x h=>by simp at h⟩
theorem FitL.one {q:Sh} {x:V} (h:Fit q x):FitL [q] [x]:=⟨rfl,fun j sh y h1 h2=>by
 match j with
 |0=>simp at h1 h2;subst h1;subst h2;exact h
 |j+1=>simp at h1⟩
theorem FitL.app {e f:List Sh} {xs ys:List V} (h:FitL e xs) (g:FitL f ys):FitL (e++f) (xs++ys):=by
 refine⟨by rw[List.length_append,List.length_append,h.1,g.1],fun j sh x h1 h2=> ?_⟩
 by_cases hj:j<e.length
 · rw[List.getElem?_append_left hj]at h1
   rw[List.getElem?_append_left (by rw[h.1];exact hj)]at h2
   exact h.2 j sh x h1 h2
 · rw[List.getElem?_append_right (by omega)]at h1
   rw[List.getElem?_append_right (by rw[h.1];omega),h.1]at h2
   exact g.2 _ sh x h1 h2
section
variable {H:Type} {enc:TypeId×Value→H} {P:Program} {w:World}
theorem fields_rep {g : TypeId → Option (List Sh)} {c : TypeId → Nat} {α : Type} {tr : TypeId → List Value → Option α} {cs : List Value} (hg : ∀ t cs' x l, tr t cs' = some x → g t = some l → cs'.length = l.length ∧ ∃ xs, FitL l xs ∧ RepL w cs' xs) :
  ∀ (r:List Field) (o:Nat) (l:List Sh),shapeF g c o r=some l→(∀ f∈r,∃ x,tr f.type ((cs.drop f.offset).take (c f.type))=some x)→∃ xs,FitL l xs∧RepL w (cs.drop o) xs
 |[],o,l,h,_=>by
  simp only[shapeF,Option.some.injEq]at h
  subst h
  exact⟨[],FitL.nil,fun j v d _ h=>by simp at h⟩
 | f :: r, o, l, h, ht => by
  simp only[shapeF]at h
  split at h
  · rename_i l1 l2 e1 e2
    split at h
    · rename_i hc
      simp only[Bool.and_eq_true,Nat.beq_eq]at hc
      injection h with h
      subst h
      obtain⟨x,hx⟩:=ht f (List.mem_cons_self ..)
      obtain⟨h1,xs,h2,h3⟩:=hg _ _ _ _ hx e1
      obtain⟨ys,h4,h5⟩:=fields_rep hg r _ _ e2 fun f hf=>ht f (List.mem_cons_of_mem _ hf)
      refine⟨xs++ys,h2.app h4,fun j v d hv hd=> ?_⟩
      rw[hc.1]at h3
      by_cases hj:j<l1.length
      · rw[List.getElem?_append_left (by rw[h2.1];exact hj)]at hd
        refine h3 j v d ?_ hd
        rw[List.getElem?_take,if_pos (by omega)]
        exact hv
      · rw[List.getElem?_append_right (by rw[h2.1];omega),h2.1]at hd
        refine h5 (j - l1.length) v d ?_ hd
        rw[List.getElem?_drop]at hv⊢
        rw[show o+c f.type+(j - l1.length)=o+j by omega]
        exact hv
    · cases h
  · cases h
theorem trod_rep:∀ (fuel n:Nat) (t:TypeId) (cs:List Value) (x:DataW H×List MemPlace) (l:List Sh),DataW.trod enc P w 0 (fun _=>true) true fuel t cs=some x→shape P n t=some l→cs.length=l.length∧∃ xs,FitL l xs∧RepL w cs xs:=by
 intro fuel
 induction fuel with
 |zero=>intro n t cs x l h;simp[DataW.trod]at h
 | succ fuel ih =>
  intro n t cs x l h hs
  cases n with
  |zero=>cases hs
  | succ n =>
   have one:∀ {q:Sh} {v:Value} {d:V},Fit q d→Rep w FA no v d→[v].length=[q].length∧∃ xs,FitL [q] xs∧RepL w [v] xs:=fun{q v d} h1 h2=>⟨rfl,[d],FitL.one h1,fun j v' d' e1 e2=>by
    match j with
    |0=>simp at e1 e2;subst e1;subst e2;exact h2
    |j+1=>simp at e1⟩
   unfold shape at hs
   split at hs
   · rename_i hu
     injection hs with hs;subst hs
     unfold DataW.trod at h
     rw[hu]at h
     split at h<;>simp_all
     exact one (.b _) (.k _ _)
   · rename_i k hu
     injection hs with hs;subst hs
     unfold DataW.trod at h
     rw[hu]at h
     split at h<;>simp_all
     obtain⟨⟨rfl,h1⟩,_⟩:=h
     exact one (.i _ _ h1) (.k _ _)
   · rename_i hu
     injection hs with hs;subst hs
     unfold DataW.trod at h
     rw[hu]at h
     split at h<;>simp_all
     exact one (.s _ h.1) (.k _ _)
   · rename_i e hu
     split at hs
     · rename_i l' hl'
       split at hs
       · rename_i hc
         simp only[Bool.and_eq_true,Nat.beq_eq,Nat.blt_eq]at hc
         injection hs with hs;subst hs
         rcases DataW.trod_slice hu h with⟨rfl,_⟩|⟨a,len,cap,elems,rest,n',hn',rfl,rfl,hb,hl,hm,hlen,hel,hsp,hns⟩
         · exact one (.row l' [] (by simp) (by simp) (by simp)) (.sl _ none 0 0 0 l'.length [] (fun _ _=>undef) (Nat.zero_le _) (Nat.zero_le _) (by simp) (by simp) (by simp) (by simp))
         · obtain rfl:fuel=n':=by omega
           have he:∀ i,i<len→∃ xs,FitL l' xs∧∀ j d,xs[j]? =some d→∃ v,w.cell? (a.add (i*P.cellsOf e) |>.add j)=some v∧Rep w FA no v d:=by
            intro i hi
            have hq:=hel i hi
            rw[List.getElem?_eq_getElem (by omega)]at hq
            obtain⟨cs',h1,h2⟩:=Option.bind_eq_some_iff.1 hq
            obtain⟨h3,xs,h4,h5⟩:=ih n e cs' _ l' h2 hl'
            obtain⟨_,h6,h7⟩:=World.cells?_some h1
            refine⟨xs,h4,fun j d hd=> ?_⟩
            have hjl:=(List.getElem?_eq_some_iff.1 hd).1
            rw[h4.1]at hjl
            have hv:cs'[j]? =some cs'[j]:=List.getElem?_eq_getElem (by omega)
            exact⟨_,(h7 j (by omega)).trans hv,h5 j _ d hv hd⟩
           by_cases h0:len=0
           · subst h0
             exact one (.row l' [] (by simp) (by simp) (by simp)) (.sl _ (some a) 0 0 cap l'.length [] (fun _ _=>undef) (Nat.zero_le _) hm (by simp) (by simp) (by simp) (by simp))
           · have hch:∃ F:Nat→List V,∀ i,i<len→FitL l' (F i)∧∀ j d,(F i)[j]? =some d→∃ v,w.cell? (a.add (i*P.cellsOf e) |>.add j)=some v∧Rep w FA no v d:=
              ⟨fun i=>if h:i<len then(he i h).choose else[],fun i hi=>by simp only[dif_pos hi];exact(he i hi).choose_spec⟩
             obtain⟨F,hF⟩:=hch
             obtain⟨b,o,spot⟩:=a
             have hspot:spot=none:=by
              obtain⟨h1,h2⟩:=hF 0 (by omega)
              have hlt:0<(F 0).length:=by rw[h1.1];exact hc.2
              obtain⟨v,h3,_⟩:=h2 0 _ (List.getElem?_eq_getElem hlt)
              simpa[Addr.add]using World.cell?_spot h3
             subst hspot
             have hadd:∀ i j:Nat,((⟨b,o,none⟩:Addr).add (i*P.cellsOf e)).add j=⟨b,o+i*l'.length+j,none⟩:=fun i j=>by rw[hc.1,Go.WideShapes.add_plain,Go.WideShapes.add_plain]
             let L:List (List V):=(List.range len).map F
             have hL:L.length=len:=by simp[L]
             have hLi:∀ i cs,L[i]? =some cs→i<len∧cs=F i:=fun i cs hi=>by
              have hlt:=(List.getElem?_eq_some_iff.1 hi).1
              rw[hL]at hlt
              simp only[L,List.getElem?_map,List.getElem?_range hlt,Option.map_some,Option.some.injEq]at hi
              exact⟨hlt,hi.symm⟩
             have hmem:∀ cs∈L,∃ i,i<len∧cs=F i:=fun cs hcs=>by
              obtain⟨i,hi⟩:=List.getElem?_of_mem hcs
              exact⟨i,hLi i cs hi⟩
             have hr:Rep w FA no (.slice (some ⟨b,o,none⟩) L.length cap) (.sl L):=by
              refine .sl _ _ b o cap l'.length L (fun i j=>(w.cell? ⟨b,o+i*l'.length+j,none⟩).getD undef) (by omega) hm (fun _=>⟨rfl,fun e=>e, ?_⟩) (fun cs hcs=> ?_) (fun i j cs x hi hj=> ?_) (fun i j cs x hi hj=> ?_)
              · obtain⟨h1,h2⟩:=hF 0 (by omega)
                have hlt:0<(F 0).length:=by rw[h1.1];exact hc.2
                obtain⟨v,h3,_⟩:=h2 0 _ (List.getElem?_eq_getElem hlt)
                rw[hadd]at h3
                exact cb_of h3
              · obtain⟨i,hi,rfl⟩:=hmem cs hcs
                exact(hF i hi).1.1
              · obtain⟨hi',rfl⟩:=hLi i cs hi
                obtain⟨v,h3,_⟩:=(hF i hi').2 j x hj
                rw[hadd]at h3
                rw[h3];rfl
              · obtain⟨hi',rfl⟩:=hLi i cs hi
                obtain⟨v,h3,h4⟩:=(hF i hi').2 j x hj
                rw[hadd]at h3
                rw[h3]
                exact h4
             rw[hL]at hr
             refine one (.row l' L (by omega) (fun cs hcs=> ?_) (fun cs hcs j sh x h1 h2=> ?_)) hr
             · obtain⟨i,hi,rfl⟩:=hmem cs hcs
               exact(hF i hi).1.1
             · obtain⟨i,hi,rfl⟩:=hmem cs hcs
               exact(hF i hi).1.2 j sh x h1 h2
       · cases hs
     · cases hs
   · rename_i fs hu
     split at hs
     · rename_i l' hl'
       split at hs
       · rename_i hc
         have hc:=Nat.eq_of_beq_eq_true hc
         injection hs with hs;subst hs
         obtain⟨xs,n',hn',_,h1,h2,h3⟩:=DataW.trod_struct hu h
         obtain rfl:fuel=n':=by omega
         obtain⟨ys,h4,h5⟩:=fields_rep (w:=w) (c:=P.cellsOf) (tr:=fun t cs=>DataW.trod enc P w 0 (fun _=>true) true fuel t cs) (cs:=cs) (fun t cs' x l a b=>ih n t cs' x l a b) fs.toList 0 l' hl' (fun f hf=>by
          obtain⟨i,hi⟩:=List.getElem?_of_mem hf
          have hi2:fs[i]? =some f:=by simpa using hi
          have hlt:=(Array.getElem?_eq_some_iff.1 hi2).1
          have h6:=h3 i f hi2
          rw[List.getElem?_eq_getElem (by omega)]at h6
          exact⟨_,h6⟩)
         exact⟨by omega,ys,h4,by simpa using h5⟩
       · cases hs
     · cases hs
   · cases hs
/-- An argument of one cell. -/
theorem arg_1 {n:Nat} {t:TypeId} {v:Value} {d:DataW H} {ps:List MemPlace} {q:Sh} (h:DataW.Trod enc P w 0 (fun _=>true) true t v d ps) (hv:v.cells= #[v]) (hs:shape P n t=some [q]):∃ x,Fit q x∧Rep w FA no v x:=by
 obtain⟨fuel,hf⟩:=h
 rw[hv]at hf
 obtain⟨_,xs,h1,h2⟩:=trod_rep fuel n t _ _ _ hf hs
 match xs,h1 with
 |[x],h1=>exact⟨x,h1.2 0 q x rfl rfl,h2 0 v x rfl rfl⟩
end
/-- A row of ints. -/
theorem Fit.ints {x:V} (h:Fit (.row [.ii .i64]) x):∃ l:List Int,x=zl l∧∀ n∈l,W.Is64 n:=by
 cases h with
 |row e l h0 h1 h2=>
  clear h0
  suffices h:∃ l':List Int,l=zs l'∧∀ n∈l',W.Is64 n by
   obtain⟨l',rfl,h⟩:=h
   exact⟨l',rfl,h⟩
  induction l with
  |nil=>exact⟨[],rfl,by simp⟩
  |cons a r ih=>
   obtain⟨l',rfl,h3⟩:=ih (fun cs h=>h1 cs (List.mem_cons_of_mem _ h)) (fun cs h=>h2 cs (List.mem_cons_of_mem _ h))
   have hl:=h1 a (List.mem_cons_self ..)
   have hf:=h2 a (List.mem_cons_self ..)
   match a,hl with
   | [y], _ =>
    have hy:=hf 0 _ y rfl rfl
    cases hy with
    |i k n hw=>exact⟨n::l',rfl,fun m hm=>by
      rcases List.mem_cons.1 hm with rfl|hm
      · exact is64_of hw
      · exact h3 m hm⟩
end Go.Proofs.YtmgagedefmmloaaGreatDoor.E
