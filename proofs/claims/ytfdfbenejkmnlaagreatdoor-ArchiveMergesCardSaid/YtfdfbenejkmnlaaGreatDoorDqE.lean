/-
 THE LAW ArchiveMerges: its walk.
-/
import Derived.Test.YtfdfbenejkmnlaaGreatDoorDqD
namespace Go.Proofs.YtfdfbenejkmnlaaGreatDoor.E.Ca
open Go.RowKit Hs
set_option linter.unusedVariables false
set_option linter.unusedSimpArgs false
section
variable {P X Y L M:List CQ} {q r c:CQ} {b t:Int} {i j k n:Nat} {l m o:List Int}
/-- One museum's claims since the past. -/
structure Sid (P X:List CQ) (b t:Int):Prop where
 ar:Arc 3 (P++X)
 by_:∀ q∈X,q.by_=b
 tk:∀ q∈P++X,q.tick≤t
noncomputable def nxQ (L:List CQ) (b nn mm:Int):CQ:=mkQ 3 L (cntQ 3 L b nn mm)
theorem sd_mk (h:Sid P X b t) (hb:0≤b∧b<3) (ht:0≤t∧t<100) (hl:(P++X).length<100) (nn mm:Int):
  mkE 3 (P++X) (cntQ 3 (P++X) b nn mm)=0∧mkL 3 (P++X) (cntQ 3 (P++X) b nn mm)=P++(X++[nxQ (P++X) b nn mm])∧Sid P (X++[nxQ (P++X) b nn mm]) b (t+1):=by
 have ck:=Arc.clk_app (n:=3) h.tk ht.1
 obtain⟨m1,m2⟩:=cnt_mk (n:=3) h.ar (b:=b) (by omega) (by omega) (by omega) nn mm
 have cg:=cnt_g h.ar (b:=b) (sm64 (by omega)) nn mm
 have ha2:=mkL_arc h.ar cg.1 cg.2
 rw[m2,List.append_assoc]at ha2
 have by1:=(ctQ_by (b:=b) (kd:=rnd nn 3) (w:=1+rnd mm 8) (R:=ctR 3 (P++X) nn mm) (fitQ (nine nn mm) 0)).1
 refine⟨m1,by rw[m2,List.append_assoc];rfl,ha2,fun q hq=> ?_,fun q hq=> ?_⟩
 · rcases List.mem_append.1 hq with hq|hq
   · exact h.by_ q hq
   · rw[List.mem_singleton]at hq
     subst hq
     exact by1
 · rw[←List.append_assoc]at hq
   rcases List.mem_append.1 hq with hq|hq
   · have:=h.tk q hq;omega
   · rw[List.mem_singleton]at hq
     subst hq
     show clkP (P++X) 3+1≤_
     omega
noncomputable abbrev fMg:Func:=fnOf PP 4
abbrev GMg (td:List Item) (σ:St):Prop:=Gd PP 4 (bo true) td σ
noncomputable def mg1 (m o:List Int) (P X:List CQ) (i:Nat):St:=at_ fMg [(1,zl m),(2,zl o),(7,.lp 0 0),(8,.lp 1 0),(9,.lp 2 0),(10,ni i)] [.bx TRA (aR 3 P),.bx TRA (aR 3 (P++X)),.bx TRA (aR 3 P)]
noncomputable def mg2 (o:List Int) (P X Y:List CQ) (i:Nat):St:=at_ fMg [(2,zl o),(7,.lp 0 0),(8,.lp 1 0),(9,.lp 2 0),(14,ni i)] [.bx TRA (aR 3 P),.bx TRA (aR 3 (P++X)),.bx TRA (aR 3 (P++Y))]
noncomputable def mg3 (P X Y:List CQ):St:=at_ fMg [(7,.lp 0 0),(8,.lp 1 0),(9,.lp 2 0)] [.bx TRA (aR 3 P),.bx TRA (aR 3 (P++X)),.bx TRA (aR 3 (P++Y))]
theorem mg_2 (ho:∀ x∈o,W.Is64 x) (hol:o.length≤9223372036854775807) (hp:P.length≤10) (hx:X.length≤4) (hX:Sid P X 0 14) (h0:Sid P [] 1 10) (next:∀ Y,Y.length≤4→Sid P Y 1 14→GMg (rg fMg 16) (mg3 P X Y)):GMg (lp fMg 1) (mg2 o P X [] 0):=by
 have lz:(zs o).length=o.length:=List.length_map ..
 have e77:ni ((zs o).length:Int)=ni (o.length:Int):=by rw[lz]
 refine Gd.loop (fun x:Nat×List CQ=>mg2 o P X x.2 x.1) (fun x=>x.1≤4∧x.2.length≤x.1∧Sid P x.2 1 (10+x.1)) (fun x=>4 - x.1) ?_ (0,[]) ⟨Nat.zero_le _,Nat.le_refl _,h0⟩
 rintro ⟨i,Y⟩ ⟨hi,hy,hY⟩ ih
 simp only at hi hy hY ih
 by_cases h:i<4∧2*i+1<o.length
 · have lt:decide (((2*i+1:Nat):Int)<(o.length:Int))=true:=decide_eq_true (by omega)
   have lt2:decide ((i:Int)<4)=true:=decide_eq_true (by omega)
   have s1:=zs_el (l:=o) (i:=2*i) (by omega)
   have s2:=zs_el (l:=o) (i:=2*i+1) (by omega)
   have wi:∀ j,j<o.length→W.Is64 (o.getD j 0):=fun j hj=>ho _ (by rw[List.getD_eq_getElem?_getD,List.getElem?_eq_getElem hj];exact List.getElem_mem _)
   have w1:=wi (2*i) (by omega)
   have w2:=wi (2*i+1) (by omega)
   have cn:=e_content hY.ar (b:=1) w1 w2
   have cg:=cnt_g hY.ar (b:=1) (sm64 (by omega)) (o.getD (2*i) 0) (o.getD (2*i+1) 0)
   have mk:=e_rmake hY.ar cg.1 cg.2
   obtain⟨k1,k2,k3⟩:=sd_mk hY (by omega) (by omega) (by rw[List.length_append];omega) (o.getD (2*i) 0) (o.getD (2*i+1) 0)
   have ew:mkW 3 (P++Y) (cntQ 3 (P++Y) 1 (o.getD (2*i) 0) (o.getD (2*i+1) 0))=dQ (mkQ 3 (P++Y) (cntQ 3 (P++Y) 1 (o.getD (2*i) 0) (o.getD (2*i+1) 0))):=if_pos k1
   rw[k2,k1,ew]at mk
   have nx:=ih (i+1,Y++[nxQ (P++Y) 1 (o.getD (2*i) 0) (o.getD (2*i+1) 0)]) ⟨by omega,by rw[List.length_append];simp only[List.length_cons,List.length_nil];omega,by
    have e:(10:Int)+((i+1:Nat):Int)=10+(i:Int)+1:=by omega
    show Sid P _ 1 (10+((i+1:Nat):Int))
    rw[e]
    exact k3⟩ (by simp only;omega)
   simp only at nx
   generalize o.getD (2*i) 0=y1 at*
   generalize o.getD (2*i+1) 0=y2 at*
   generalize Y++[nxQ (P++Y) 1 y1 y2]=Y2 at*
   generalize cntQ 3 (P++Y) 1 y1 y2=cq at*
   unfold mg2 at nx⊢
   unfold PCn at cn
   unfold PRM mD at mk
   unfold aR slQ at*
   generalize (P++Y2).map dQ=R2 at*
   generalize (P++Y).map dQ=R at*
   generalize (P++X).map dQ=R1 at*
   exact .to mo_ [] [2,7,8,9,14] [0,1,2] 3 [wq 74 (2*(i:Int)) ((2*i:Nat):Int) (by omega),wq 75 (((2*i:Nat):Int)+1) ((2*i+1:Nat):Int) (by omega),.eqv 77 _ _ e77,ye lt,ye lt2,
    wq 90 (2*(i:Int)) ((2*i:Nat):Int) (by omega),.sel _ _ _ s1,wq 95 (2*(i:Int)) ((2*i:Nat):Int) (by omega),wq 96 (((2*i:Nat):Int)+1) ((2*i+1:Nat):Int) (by omega),.sel _ _ _ s2,cl cn,cl mk,yt,inc 84 i (by omega)] nx (by kernel_rfl)
 · have fin:=next Y (by omega) ⟨hY.ar,hY.by_,fun q hq=>by have:=hY.tk q hq;omega⟩
   unfold mg3 at fin
   unfold mg2
   unfold aR slQ at*
   generalize (P++Y).map dQ=R at*
   generalize (P++X).map dQ=R1 at*
   by_cases h2:2*i+1<o.length
   · have lt:decide (((2*i+1:Nat):Int)<(o.length:Int))=true:=decide_eq_true (by omega)
     have lt2:decide ((i:Int)<4)=false:=decide_eq_false (by omega)
     exact .to mo_ [] [7,8,9] [0,1,2] 3 [wq 74 (2*(i:Int)) ((2*i:Nat):Int) (by omega),wq 75 (((2*i:Nat):Int)+1) ((2*i+1:Nat):Int) (by omega),.eqv 77 _ _ e77,ye lt,na lt2] fin (by kernel_rfl)
   · have lt:decide (((2*i+1:Nat):Int)<(o.length:Int))=false:=decide_eq_false (by omega)
     exact .to mo_ [] [7,8,9] [0,1,2] 3 [wq 74 (2*(i:Int)) ((2*i:Nat):Int) (by omega),wq 75 (((2*i:Nat):Int)+1) ((2*i+1:Nat):Int) (by omega),.eqv 77 _ _ e77,na lt,nf] fin (by kernel_rfl)
theorem mg_1 (hm:∀ x∈m,W.Is64 x) (hml:m.length≤9223372036854775807) (hp:P.length≤10) (h0:Sid P [] 0 10) (next:∀ X,X.length≤4→Sid P X 0 14→GMg (lp fMg 1) (mg2 o P X [] 0)):GMg (lp fMg 0) (mg1 m o P [] 0):=by
 have lz:(zs m).length=m.length:=List.length_map ..
 have e43:ni ((zs m).length:Int)=ni (m.length:Int):=by rw[lz]
 refine Gd.loop (fun x:Nat×List CQ=>mg1 m o P x.2 x.1) (fun x=>x.1≤4∧x.2.length≤x.1∧Sid P x.2 0 (10+x.1)) (fun x=>4 - x.1) ?_ (0,[]) ⟨Nat.zero_le _,Nat.le_refl _,h0⟩
 rintro ⟨i,X⟩ ⟨hi,hy,hY⟩ ih
 simp only at hi hy hY ih
 by_cases h:i<4∧2*i+1<m.length
 · have lt:decide (((2*i+1:Nat):Int)<(m.length:Int))=true:=decide_eq_true (by omega)
   have lt2:decide ((i:Int)<4)=true:=decide_eq_true (by omega)
   have s1:=zs_el (l:=m) (i:=2*i) (by omega)
   have s2:=zs_el (l:=m) (i:=2*i+1) (by omega)
   have wi:∀ j,j<m.length→W.Is64 (m.getD j 0):=fun j hj=>hm _ (by rw[List.getD_eq_getElem?_getD,List.getElem?_eq_getElem hj];exact List.getElem_mem _)
   have w1:=wi (2*i) (by omega)
   have w2:=wi (2*i+1) (by omega)
   have cn:=e_content hY.ar (b:=0) w1 w2
   have cg:=cnt_g hY.ar (b:=0) (sm64 (by omega)) (m.getD (2*i) 0) (m.getD (2*i+1) 0)
   have mk:=e_rmake hY.ar cg.1 cg.2
   obtain⟨k1,k2,k3⟩:=sd_mk hY (by omega) (by omega) (by rw[List.length_append];omega) (m.getD (2*i) 0) (m.getD (2*i+1) 0)
   have ew:mkW 3 (P++X) (cntQ 3 (P++X) 0 (m.getD (2*i) 0) (m.getD (2*i+1) 0))=dQ (mkQ 3 (P++X) (cntQ 3 (P++X) 0 (m.getD (2*i) 0) (m.getD (2*i+1) 0))):=if_pos k1
   rw[k2,k1,ew]at mk
   have nx:=ih (i+1,X++[nxQ (P++X) 0 (m.getD (2*i) 0) (m.getD (2*i+1) 0)]) ⟨by omega,by rw[List.length_append];simp only[List.length_cons,List.length_nil];omega,by
    have e:(10:Int)+((i+1:Nat):Int)=10+(i:Int)+1:=by omega
    show Sid P _ 0 (10+((i+1:Nat):Int))
    rw[e]
    exact k3⟩ (by simp only;omega)
   simp only at nx
   generalize m.getD (2*i) 0=y1 at*
   generalize m.getD (2*i+1) 0=y2 at*
   generalize X++[nxQ (P++X) 0 y1 y2]=Y2 at*
   generalize cntQ 3 (P++X) 0 y1 y2=cq at*
   unfold mg1 at nx⊢
   unfold PCn at cn
   unfold PRM mD at mk
   unfold aR slQ at*
   generalize (P++Y2).map dQ=R2 at*
   generalize (P++X).map dQ=R at*
   exact .to mo_ [] [1,2,7,8,9,10] [0,1,2] 3 [wq 40 (2*(i:Int)) ((2*i:Nat):Int) (by omega),wq 41 (((2*i:Nat):Int)+1) ((2*i+1:Nat):Int) (by omega),.eqv 43 _ _ e43,ye lt,ye lt2,
    wq 56 (2*(i:Int)) ((2*i:Nat):Int) (by omega),.sel _ _ _ s1,wq 61 (2*(i:Int)) ((2*i:Nat):Int) (by omega),wq 62 (((2*i:Nat):Int)+1) ((2*i+1:Nat):Int) (by omega),.sel _ _ _ s2,cl cn,cl mk,yt,inc 50 i (by omega)] nx (by kernel_rfl)
 · have fin:=next X (by omega) ⟨hY.ar,hY.by_,fun q hq=>by have:=hY.tk q hq;omega⟩
   unfold mg2 at fin
   rw[List.append_nil]at fin
   unfold mg1
   unfold aR slQ at*
   generalize (P++X).map dQ=R at*
   by_cases h2:2*i+1<m.length
   · have lt:decide (((2*i+1:Nat):Int)<(m.length:Int))=true:=decide_eq_true (by omega)
     have lt2:decide ((i:Int)<4)=false:=decide_eq_false (by omega)
     exact .to mo_ [] [2,7,8,9,14] [0,1,2] 3 [wq 40 (2*(i:Int)) ((2*i:Nat):Int) (by omega),wq 41 (((2*i:Nat):Int)+1) ((2*i+1:Nat):Int) (by omega),.eqv 43 _ _ e43,ye lt,na lt2] fin (by kernel_rfl)
   · have lt:decide (((2*i+1:Nat):Int)<(m.length:Int))=false:=decide_eq_false (by omega)
     exact .to mo_ [] [2,7,8,9,14] [0,1,2] 3 [wq 40 (2*(i:Int)) ((2*i:Nat):Int) (by omega),wq 41 (((2*i:Nat):Int)+1) ((2*i+1:Nat):Int) (by omega),.eqv 43 _ _ e43,na lt,nf] fin (by kernel_rfl)
end
end Go.Proofs.YtfdfbenejkmnlaaGreatDoor.E.Ca
