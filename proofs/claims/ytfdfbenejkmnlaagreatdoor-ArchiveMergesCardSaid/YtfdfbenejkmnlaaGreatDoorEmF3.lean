/-
 THE SECOND ENGINE, 8: append; all operations.
-/
import Derived.Test.YtfdfbenejkmnlaaGreatDoorEmF2
namespace Go.Proofs.YtfdfbenejkmnlaaGreatDoor.E
open Go.RowKit
set_option linter.unusedVariables false
set_option linter.unusedSimpArgs false
section
variable {B:Nat→Prop} {M:Nat→Prop} {h:Nat→HO} {m m':Nat→Option Value} {w w':World} {A A':Nat→Prop} {P:Program} {σ:St} {a:Act} {o:Oper} {sc:List (Fa P)} {r:R P}
theorem append_run {t e ty:TypeId} {i:TypeInfo} {z:Value} (ht:P.underlying t=some (.slice e)) (hi:P.info? e=some i) (hz:i.zero=some z) (hzs:z.cells.size=i.size) (hsz:0<i.size) {v:Value} {n:Nat} {xs:List Value} (hown:OwR w B e i.size v n xs)
  {a:Addr} {m c:Nat} {news:List Value} (hl:news.length=m*i.size) (hnews:∀ j u,news[j]? =some u→w.cell? (a.add j)=some u) (h1:∀ u∈news,u.oneCell'=true) (h0:0<m) (h63:n+m≤maxLen) (hbytes:(n+m)*i.bytes≤140737488355328) (hB:∀ g,B g→g<w.heap.size):
  ∃ v' w',(Builtin.append_ #[t,t] ty #[v,.slice (some a) m c]).run P w= .ok v' w'∧OwR w' B e i.size v' (n+m) (xs++news)∧w.grownBy w' v.ownBlock∧(∃ A c,v'= .slice A (n+m) c)∧∀ g,E.blk v'=some g→E.blk v=some g∨w.heap.size≤g:=by
 obtain⟨v',w',r1,r2,r3,_⟩:=run_append_own w 0 t ty e i z i.size i.bytes ht hi hz rfl rfl hzs hsz v n xs hown.kit a m c news hl hnews h1 h63 hbytes (Nat.zero_le _)
 have hsmall:n+m≤9223372036854775807:=by simp only[maxLen]at h63;omega
 suffices key:∀ g,E.blk v'=some g→E.blk v=some g∨w.heap.size≤g by
  refine⟨v',w',r1,.of r2 (fun g _ hg hb=> ?_),r3, ?_,key⟩
  · rcases key g hg with e|e
    · rcases hown.2 with⟨rfl,_⟩|⟨g',cap,cur,rfl,hbg,_⟩
      · cases e
      · simp only[E.blk,Option.some.injEq]at e;subst e;exact hbg hb
    · have:=hB g hb;omega
  · rcases r2.2 with⟨h5,h6⟩|⟨g,cap,cur,h5,_⟩
    · omega
    · exact⟨_,_,h5⟩
 · rcases hown.2 with⟨rfl,rfl⟩|⟨g,cap,cur,rfl,hbg,hg,hnc,hcm,hcs,htake⟩
   · have hr:=run_append_nil (P:=P) w t ty e i z ht hi hz a m c news hl hnews h0 (by omega) (by have hb:=hbytes;simp only[Nat.zero_add]at hb;omega)
     rw[hr]at r1
     injection r1 with r1 _
     subst r1
     intro g hg
     simp only[E.blk,Option.some.injEq]at hg
     exact .inr (by omega)
   · by_cases hroom:n+m≤cap
     · have hfit:n*i.size+news.length≤cur.size:=by rw[hl,hcs,←Nat.add_mul];exact Nat.mul_le_mul_right _ hroom
       have hr:=run_append_room (P:=P) w t ty e i ht hi g n cap cur hg a m c news hl hnews h1 hroom hfit
       rw[hr]at r1
       injection r1 with r1 _
       subst r1
       exact fun g hg=> .inl hg
     · have holds:∀ j u,xs[j]? =some u→w.cell? ((⟨g,0,none⟩:Addr).add j)=some u:=hown.kit.cells (g:=g) rfl
       have hr:=run_append_grow (P:=P) w t ty e i z ht hi hz ⟨g,0,none⟩ n cap xs hown.1 holds a m c news hl hnews (by omega) (by omega) (growslice_fits (by omega) hbytes)
       rw[hr]at r1
       injection r1 with r1 _
       subst r1
       intro g hg
       simp only[E.blk,Option.some.injEq]at hg
       exact .inr (by omega)
theorem apT_of {e n bytes:Nat} (h:apT P e=some (n,bytes)):∃ i z,P.info? e=some i∧i.zero=some z∧z.cells.size=i.size∧0<i.size∧i.size=n∧i.bytes=bytes:=by
 unfold apT at h
 split at h
 · rename_i i hi
   split at h
   · rename_i z hz
     split at h
     · rename_i hc
       simp only[Bool.and_eq_true,Nat.blt_eq]at hc
       simp only[Option.some.injEq,Prod.mk.injEq]at h
       exact⟨i,z,hi,hz,Nat.eq_of_beq_eq_true hc.1,hc.2,h.1,h.2⟩
     · cases h
   · cases h
 · cases h
/-- The appended elements. -/
theorem blk_own (v:Value) (h:∃ A n c,v= .slice A n c):E.blk v=v.ownBlock:=by
 obtain⟨A,n,c,rfl⟩:=h
 cases A<;>rfl
theorem flat_take {z:Nat}:∀ {l:List (List V)} (k:Nat),(∀ cs∈l,cs.length=z)→(l.take k).flatten=l.flatten.take (k*z)∧(l.drop k).flatten=l.flatten.drop (k*z)
 |[],k,_=>by simp
 |c::r,0,_=>by simp
 |c::r,k+1,h=>by
  have hc:=h c (List.mem_cons_self ..)
  have ih:=flat_take (l:=r) k fun cs hcs=>h cs (List.mem_cons_of_mem _ hcs)
  have e:(k+1)*z=c.length+k*z:=by rw[Nat.succ_mul,hc,Nat.add_comm]
  simp only[List.take_succ_cons,List.drop_succ_cons,List.flatten_cons]
  rw[e,List.take_length_add_append,List.drop_length_add_append,ih.1,ih.2]
  exact⟨rfl,rfl⟩
theorem World.grownBy_refl (w:World) (r:Option Nat):w.grownBy w r:=by constructor<;>intros<;>first|rfl|assumption|exact Nat.le_refl _|exact .inl rfl|omega
theorem append_none {t e ty:TypeId} {n0:Nat} (ht:P.underlying t=some (.slice e)) (hs:szT P e=some n0) {ad X:Option Addr} {n c c2:Nat} (h:n≤c):(Builtin.append_ #[t,t] ty #[.slice ad n c,.slice X 0 c2]).run P w= .ok (.slice ad n c) w:=by
 cases X<;>cases ad<;>simp[Builtin.append_,run_under ht,run_size hs,Builtin.lenOf,Builtin.firstCells,loadCells,loadCellsFrom,storeCells,h]
theorem append_ok (K : Ok B M h m w) {c : Call} (ho : o.op = .call c) (hc : c.callee = .builtin .append) (e : aop P o σ sc = some r) (hk : ∀ p ∈ r.ks, p.1 = p.2) (H : Opd w (Av M h m) m o a σ) (hr : ∀ b ∈ r.rd, h b = σ.ho b) (hw : ∀ b ∈ r.ws.map (·.1), b < σ.h.length → h b = σ.ho b)
  (hn:∀ b∈r.ws.map (·.1),σ.h.length≤b→h b= .dead∧m b=none):Goal_ B M P o a h m w r:=by
 simp only[aop,ho,hc]at e
 split at e
 · rename_i x y t t' hargs hts
   have hx:=H.evT (P:=P) (T:=t) (x:=x) (by rw[ho];simp[Op.operands,Call.operands,hc,hargs])
   have hy:=H.ev (x:=y) (by rw[ho];simp[Op.operands,Call.operands,hc,hargs])
   have ha:c.args= #[x,y]:=by apply Array.ext';exact hargs
   split at e
   · rename_i el hd
     split at e
     · rename_i n' bytes htt hap
       have htt:=Nat.eq_of_beq_eq_true htt
       subst htt
       have hta:c.argTypes= #[t,t]:=by apply Array.ext';exact hts
       obtain⟨i,z,i1,i2,i3,i4,i5,i6⟩:=apT_of hap
       have hexec:∀ {u:Value} {w':World},(Builtin.append_ #[t,t] o.type #[a.eval x,a.eval y]).run P w= .ok u w'→(execOp a.eval o).run P w= .ok (.value u) w':=by
        intro u w' hrun
        simp[execOp,ho,resolve,hc,ha,hta,invoke,builtin,hrun]
       -- the call's end
       have fin:∀ {u:Value} {nn:Nat} {xs news:List Value} {A:Addr} {m2 cap:Nat} {ws:List (Nat×HO)},(∃ A n c,u= .slice A n c)→a.eval x=u→a.eval y= .slice (some A) m2 cap→OwR w B el i.size u nn xs→news.length=m2*i.size→(∀ j u,news[j]? =some u→w.cell? (A.add j)=some u)→(∀ u∈news,u.oneCell'=true)→0<m2→nn+m2≤maxLen→(nn+m2)*i.bytes≤140737488355328→
         (∀ u' w',OwR w' B el i.size u' (nn+m2) (xs++news)→w.grownBy w' u.ownBlock→(∃ A c,u'= .slice A (nn+m2) c)→(∀ g,E.blk u'=some g→E.blk u=some g∨w.heap.size≤g)→Post B M h m w ws (.ow σ.h.length) u' w')→Exec P o a w (Post B M h m w ws (.ow σ.h.length)):=by
        intro u nn xs news A m2 cap ws hu hxu hyv hown h1 h2 h3 h4 h5 h6 hp
        obtain⟨v',w',r1,r2,r3,r4,r5⟩:=append_run (ty:=o.type) hd i1 i2 i3 i4 hown (c:=cap) h1 h2 h3 h4 h5 h6 K.bs
        exact Exec.val (hexec (by rw[hxu,hyv];exact r1)) (hp v' w' r2 r3 r4 r5)
       subst i5;subst i6
       unfold appV at e
       split at e
       · rename_i b2 hye
         rw[hye]at hy
         split at e
         · rename_i U zz l2 kd
           split at e
           · rename_i l0 k9 l' n0 hll h0 hn0 sc' hU
             simp only[Bool.and_eq_true]at hU
             have hU1:=Nat.eq_of_beq_eq_true hU.1
             have hU2:=Nat.eq_of_beq_eq_true hU.2
             subst hU1;subst hU2
             split at e
             · rename_i hlim
               simp only[apLim,Bool.and_eq_true,Nat.ble_eq]at hlim
               have src:h b2=σ.ho b2→l2=k9→∃ A cap xs,a.eval y= .slice (some A) k9.length cap∧(∀ cs∈k9,cs.length=i.size)∧List.length xs=k9.length*i.size∧(∀ j u,xs[j]? =some u→w.cell? (A.add j)=some u)∧(∀ u∈xs,Value.oneCell' u=true)∧∀ (j:Nat) (x:V),k9.flatten[j]? =some x→Rep w (Av M h m) no (List.getD xs j undef) x:=by
                intro hb hl2
                subst hl2
                obtain⟨v2,xs,h1,h2,h3,h4,h5⟩:=K.rw b2 U i.size l2 (hb.trans kd)
                generalize hv:a.eval y=u at hy
                cases hy with
                |ow _ _ ad k2 c2 hm2=>
                  rw[h1]at hm2
                  injection hm2 with hm2
                  subst hm2
                  obtain⟨g,cap,hg,_⟩:=own_pos h3.kit h0
                  injection hg with e1 e2 e3
                  subst e1;subst e2;subst e3
                  exact⟨_,_,xs,rfl,h2,h3.1,own_cells h3.kit,h4,h5⟩
               have hlen:l'.length=l0.length+k9.length:=by rw[←hll,List.length_append]
               have kc:l0.length+k9.length≤maxLen:=by omega
               have hb2':(l0.length+k9.length)*i.bytes≤140737488355328:=Nat.le_trans (Nat.mul_le_mul_right _ (by omega)) hlim.1
               -- the new row
               have row : ∀ {xs news : List Value} {w' : World} {u' : Value}, (∀ cs ∈ l0, cs.length = i.size) → (∀ cs ∈ k9, cs.length = i.size) → xs.length = l0.length * i.size → (∀ u ∈ xs, u.oneCell' = true) → (∀ u ∈ news, u.oneCell' = true) → (∀ (j : Nat) (x : V), l0.flatten[j]? = some x → Rep w (Av M h m) no (xs.getD j undef) x) → (∀ (j : Nat) (x : V), k9.flatten[j]? = some x → Rep w (Av M h m) no (news.getD j undef) x) → OwR w' B U i.size u' (l0.length + k9.length) (xs ++ news) →
                 ∀ T z l,HO.rw U i.size l'= .rw T z l→∃ xs,(∀ cs∈l,cs.length=z)∧OwR w' B T z u' l.length xs∧(∀ u∈xs,u.oneCell'=true)∧∀ j x,l.flatten[j]? =some x→Rep w (Av M h m) no (xs.getD j undef) x:=by
                intro xs news w' u' k1 k2 k3 k4 k5 k6 k7 k8 T z l e
                injection e with e1 e2 e3
                subst e1;subst e2;subst e3
                refine⟨xs++news,fun cs hcs=> ?_,by rw[hlen];exact k8,fun u hu=>(List.mem_append.1 hu).elim (k4 u) (k5 u),fun j x hx=> ?_⟩
                · rw[←hll]at hcs
                  exact(List.mem_append.1 hcs).elim (k1 cs) (k2 cs)
                · rw[←hll,List.flatten_append]at hx
                  have hfl:=flat_len k1
                  rcases Nat.lt_or_ge j l0.flatten.length with hj|hj
                  · rw[List.getElem?_append_left hj]at hx
                    rw[List.getD_eq_getElem?_getD,List.getElem?_append_left (by omega),←List.getD_eq_getElem?_getD]
                    exact k6 j x hx
                  · rw[List.getElem?_append_right hj]at hx
                    rw[List.getD_eq_getElem?_getD,List.getElem?_append_right (by omega),←List.getD_eq_getElem?_getD,show xs.length=l0.flatten.length by omega]
                    exact k7 _ x hx
               split at e
               · rename_i b hxe
                 rw[hxe]at hx
                 split at e
                 · rename_i U' z l hb
                   split at e
                   · rename_i hcc
                     simp only[Bool.and_eq_true]at hcc
                     have hU':=Nat.eq_of_beq_eq_true hcc.1
                     have hz':=Nat.eq_of_beq_eq_true hcc.2
                     subst hU';subst hz'
                     injection e with e
                     subst e
                     have hkey:=hk _ (List.mem_singleton.2 rfl)
                     simp only[List.cons.injEq,V.sl.injEq,and_true]at hkey
                     obtain⟨rfl,rfl⟩:=hkey
                     obtain⟨A,cap,news,s1,s2,s3,s4,s5,s6⟩:=src (hr b2 (by simp)) rfl
                     have hbb:=hr b (by simp)
                     have hlive:(h b).own=true:=by rw[hbb,hb];rfl
                     obtain⟨v1,xs,h1,h2,h3,h4,h5⟩:=K.rw b U' i.size l (hbb.trans hb)
                     obtain⟨hdd,hmm⟩:=hn σ.h.length (by simp) (Nat.le_refl _)
                     have hib:σ.h.length≠b:=fun e=>by rw[←e,hmm]at h1;cases h1
                     generalize hxv:a.eval x=u at hx
                     cases hx with
                     |ow _ _ ad k2 c2 hm2=>
                       rw[h1]at hm2
                       injection hm2 with hm2
                       subst hm2
                       refine fin ⟨_,_,_,rfl⟩ hxv s1 h3 s3 s4 s5 h0 kc hb2' fun u' w' r2 r3 r4 r5=> ?_
                       obtain⟨t1,t2⟩:=K.app (x:= .rw U' i.size l') hlive h1 (blk_own _ ⟨_,_,_,rfl⟩) hib hdd hmm r3 r5 (fun _ _ e=>by cases e) (row h2 s2 h3.1 h4 s5 h5 s6 r2) rfl
                       obtain⟨A',c',r4⟩:=r4
                       subst r4
                       refine⟨_,t1,.ow _ _ _ _ _ upd_eq,t2,Bl.grown r3 K.bs fun k hk=>(K.blk hlive h1 ((blk_own _ ⟨_,_,_,rfl⟩).trans hk)).1,fun c hc=> ?_⟩
                       by_cases e:c=σ.h.length
                       · subst e;exact .inr (by simp)
                       · rw[upd_ne e]at hc;exact .inl hc
                   · cases e
                 · cases e
               · rename_i hxe
                 rw[hxe]at hx
                 injection e with e
                 subst e
                 have hkey:=hk _ (List.mem_singleton.2 rfl)
                 simp only[List.cons.injEq,V.sl.injEq,and_true]at hkey
                 obtain⟨hl0,rfl⟩:=hkey
                 subst hl0
                 obtain⟨A,cap,news,s1,s2,s3,s4,s5,s6⟩:=src (hr b2 (by simp)) rfl
                 obtain⟨hdd,hmm⟩:=hn σ.h.length (by simp) (Nat.le_refl _)
                 generalize hxv:a.eval x=u at hx
                 cases hx with
                 |nl=>
                   refine fin (xs:=[]) ⟨_,_,_,rfl⟩ hxv s1 ⟨by simp,.inl ⟨rfl,rfl⟩⟩ s3 s4 s5 h0 kc hb2' fun u' w' r2 r3 r4 r5=> ?_
                   have hbel:Below w.heap.size w w':=(Below.refl _ _).grown r3 (Nat.le_refl _) fun k hk=>by cases hk
                   have hu:∀ g,E.blk u'=some g→w.heap.size≤g:=fun g hg=>(r5 g hg).elim (fun e=>by cases e) id
                   obtain⟨A',c',r4⟩:=r4
                   subst r4
                   refine⟨_,K.new (x:= .rw U i.size l') hdd hmm hu hbel (fun _ _ e=>by cases e) (row (fun _ h=>by simp at h) s2 (by simp) (fun _ h=>by simp at h) s5 (fun j x h=>by simp at h) s6 r2) (fun _ e=>by cases e),.ow _ _ _ _ _ upd_eq,.new hdd hmm hu hbel,Bl.of hbel K.bs,fun c hc=> ?_⟩
                   by_cases e:c=σ.h.length
                   · subst e;exact .inr (by simp)
                   · rw[upd_ne e]at hc;exact .inl hc
               · cases e
             · cases e
           · cases e
         · cases e
       · rename_i c2 z2 j n2 hye
         rw[hye]at hy
         split at e
         · rename_i b z3 i0 k hxe
           rw[hxe]at hx
           split at e
           · rename_i U' z' l l0 l' k0 j0 n1 n0 hll hk0 hj0 hn0 sc' hb
             split at e
             · rename_i hcc
               injection e with e
               subst e
               simp only[apLim,Bool.and_eq_true,Nat.ble_eq]at hcc
               obtain⟨d2,d3,d4,d5,d6,d7,hlim⟩:=hcc
               have d2:=Nat.eq_of_beq_eq_true d2
               have d3:=Nat.eq_of_beq_eq_true d3
               have d4:=Nat.eq_of_beq_eq_true d4
               have d5:=Nat.eq_of_beq_eq_true d5
               have d6:=Nat.eq_of_beq_eq_true d6
               have d7:=Nat.eq_of_beq_eq_true d7
               subst d2;subst d3;subst d4
               rw[d5]at hb;rw[d6]at hx;rw[d7]at hy
               have hkey:=hk _ (List.mem_singleton.2 rfl)
               simp only[ni_,List.cons.injEq,V.sl.injEq,V.k.injEq,Value.int.injEq,true_and,and_true]at hkey
               obtain⟨rfl,e1,e2,e3⟩:=hkey
               have e1:k=k0:=by omega
               have e2:j=j0:=by omega
               have e3:n2=n1:=by omega
               subst e1;subst e2;subst e3
               have hbb:=hr b (by simp)
               have hlive:(h b).own=true:=by rw[hbb,hb];rfl
               obtain⟨v1,xs,h1,h2,h3,h4,h5⟩:=K.rw b U' i.size l (hbb.trans hb)
               obtain⟨hdd,hmm⟩:=hn σ.h.length (by simp) (Nat.le_refl _)
               have hib:σ.h.length≠b:=fun e=>by rw[←e,hmm]at h1;cases h1
               have hpos:0<l.length:=by omega
               obtain⟨g,cap,rfl,hcap,hmax,hBg,hgs⟩:=own_pos h3.kit hpos
               generalize hxv:a.eval x=u at hx
               generalize hyv:a.eval y=v at hy
               cases hx with
               | os _ _ _ _ _ g1 nn1 c1 hm1 p1 p2 =>
                cases hy with
                |os _ _ _ _ _ g2 nn2 c2' hm2 p3 p4=>
                 rw[h1]at hm1 hm2
                 injection hm1 with hm1
                 injection hm1 with a1 a2 a3
                 injection a1 with a1
                 injection a1 with a1
                 injection hm2 with hm2
                 injection hm2 with b1 b2 b3
                 injection b1 with b1
                 injection b1 with b1
                 subst a1;subst a2;subst a3;subst b1;subst b2;subst b3
                 have hu:(Value.slice (if cap=0 then some ⟨g,0,none⟩else some ⟨g,0*i.size,none⟩) (k - 0) (cap - 0))= .slice (some ⟨g,0,none⟩) k cap:=by simp
                 have hv:(Value.slice (if cap=j then some ⟨g,0,none⟩else some ⟨g,j*i.size,none⟩) (n2 - j) (cap - j))= .slice (some ⟨g,j*i.size,none⟩) (n2 - j) (cap - j):=by rw[if_neg (by omega)]
                 rw[hu]at hxv
                 rw[hv]at hyv
                 have hxl:xs.length=l.length*i.size:=h3.1
                 have m1:k*i.size≤l.length*i.size:=Nat.mul_le_mul_right _ hk0
                 have m2:n2*i.size≤l.length*i.size:=Nat.mul_le_mul_right _ hj0.2
                 have m3:j*i.size+(n2 - j)*i.size=n2*i.size:=by rw[←Nat.add_mul];congr 1;omega
                 have hown:OwR w B U' i.size (.slice (some ⟨g,0,none⟩) k cap) k (xs.take (k*i.size)):=by
                  refine⟨by rw[List.length_take];omega, ?_⟩
                  rcases h3.2 with⟨h6,h7⟩|⟨g',cap',cur,hv',q1,q2,q3,q4,q5,q6⟩
                  · omega
                  · injection hv' with r1 r2 r3
                    injection r1 with r1
                    injection r1 with r1
                    subst r1;subst r3
                    exact .inr ⟨g,cap,cur,rfl,q1,q2,by omega,q4,q5,by rw[←q6,List.take_take,Nat.min_eq_left m1]⟩
                 have hlen:l'.length=k+(n2 - j):=by rw[←hll];simp;omega
                 have hnl:((xs.drop (j*i.size)).take ((n2 - j)*i.size)).length=(n2 - j)*i.size:=by rw[List.length_take,List.length_drop];omega
                 have hng:∀ q u,((xs.drop (j*i.size)).take ((n2 - j)*i.size))[q]? =some u→q<(n2 - j)*i.size∧xs[j*i.size+q]? =some u:=fun q u hq=>by
                  rw[List.getElem?_take]at hq
                  split at hq
                  · rw[List.getElem?_drop]at hq;exact⟨by assumption,hq⟩
                  · cases hq
                 refine fin (news:=(xs.drop (j*i.size)).take ((n2 - j)*i.size)) ⟨_,_,_,rfl⟩ hxv hyv hown hnl (fun q u hq=> ?_) (fun u hu=>h4 u (List.mem_of_mem_drop (List.mem_of_mem_take hu))) (by omega) (by omega) (Nat.le_trans (Nat.mul_le_mul_right _ (by omega)) hlim.1) fun u' w' r2 r3 r4 r5=> ?_
                 · have:=own_cells h3.kit _ _ (hng q u hq).2
                   rw[Addr.add_lit]at this⊢
                   rwa [Nat.zero_add]at this
                 · obtain ⟨t1, t2⟩ := K.app (x := .rw U' i.size l') hlive h1 (blk_own _ ⟨_, _, _, rfl⟩) hib hdd hmm r3 r5 (fun _ _ e => by cases e) (fun T z l2 e => by
                    injection e with e1 e2 e3
                    subst e1;subst e2;subst e3
                    refine⟨_,fun cs hcs=> ?_,by rw[hlen];exact r2,fun u hu=> ?_,fun q y' hq=> ?_⟩
                    · rw[←hll]at hcs
                      rcases List.mem_append.1 hcs with h8|h8
                      · exact h2 cs (List.mem_of_mem_take h8)
                      · exact h2 cs (List.mem_of_mem_take (List.mem_of_mem_drop h8))
                    · rcases List.mem_append.1 hu with h8|h8
                      · exact h4 u (List.mem_of_mem_take h8)
                      · exact h4 u (List.mem_of_mem_drop (List.mem_of_mem_take h8))
                    · rw [← hll, List.flatten_append, (flat_take k h2).1, (flat_take j (l := l.take n2) fun cs hcs => h2 cs (List.mem_of_mem_take hcs)).2, (flat_take n2 h2).1] at hq
                      have hfl:(l.flatten.take (k*i.size)).length=k*i.size:=by rw[List.length_take,flat_len h2];omega
                      have hxl2:(xs.take (k*i.size)).length=k*i.size:=hown.1
                      rcases Nat.lt_or_ge q (k*i.size)with h8|h8
                      · rw[List.getElem?_append_left (by omega),List.getElem?_take,if_pos h8]at hq
                        rw[List.getD_eq_getElem?_getD,List.getElem?_append_left (by omega),List.getElem?_take,if_pos h8,←List.getD_eq_getElem?_getD]
                        exact h5 q y' hq
                      · rw[List.getElem?_append_right (by omega),hfl,List.getElem?_drop,List.getElem?_take]at hq
                        split at hq
                        · rename_i h9
                          rw[List.getD_eq_getElem?_getD,List.getElem?_append_right (by omega),hxl2,List.getElem?_take,if_pos (by omega),List.getElem?_drop,←List.getD_eq_getElem?_getD]
                          exact h5 _ y' hq
                        · cases hq) rfl
                   obtain⟨A',c',r4⟩:=r4
                   subst r4
                   refine⟨_,t1,.ow _ _ _ _ _ upd_eq,t2,Bl.grown r3 K.bs fun k' hk'=>(K.blk hlive h1 ((blk_own _ ⟨_,_,_,rfl⟩).trans hk')).1,fun c hc=> ?_⟩
                   by_cases e:c=σ.h.length
                   · subst e;exact .inr (by simp)
                   · rw[upd_ne e]at hc;exact .inl hc
             · cases e
           · rename_i U' z' l l0 l' k0 j0 hll hk0 h00 sc' hb
             split at e
             · rename_i hcc
               injection e with e
               subst e
               simp only[Bool.and_eq_true]at hcc
               obtain⟨d2,d3,d4,d5,d6,d7⟩:=hcc
               have d2:=Nat.eq_of_beq_eq_true d2
               have d3:=Nat.eq_of_beq_eq_true d3
               have d4:=Nat.eq_of_beq_eq_true d4
               have d5:=Nat.eq_of_beq_eq_true d5
               have d6:=Nat.eq_of_beq_eq_true d6
               have d7:=Nat.eq_of_beq_eq_true d7
               subst d2;subst d3;subst d4
               rw[d5]at hb;rw[d6]at hx;rw[d7]at hy
               have hkey:=hk _ (List.mem_singleton.2 rfl)
               simp only[ni_,List.cons.injEq,V.sl.injEq,V.k.injEq,Value.int.injEq,true_and,and_true]at hkey
               obtain⟨rfl,e1,e2,e3⟩:=hkey
               have e1:k=k0:=by omega
               have e2:j=j0:=by omega
               have e3:n2=j0:=by omega
               subst e1;subst e2;subst e3
               have hbb:=hr b (by simp)
               have hlive:(h b).own=true:=by rw[hbb,hb];rfl
               obtain⟨v1,xs,h1,h2,h3,h4,h5⟩:=K.rw b U' i.size l (hbb.trans hb)
               obtain⟨hdd,hmm⟩:=hn σ.h.length (by simp) (Nat.le_refl _)
               have hib:σ.h.length≠b:=fun e=>by rw[←e,hmm]at h1;cases h1
               obtain⟨g,cap,rfl,hcap,hmax,hBg,hgs⟩:=own_pos h3.kit h00
               generalize hxv:a.eval x=u at hx
               generalize hyv:a.eval y=v at hy
               cases hx with
               | os _ _ _ _ _ g1 nn1 c1 hm1 p1 p2 =>
                cases hy with
                |os _ _ _ _ _ g2 nn2 c2' hm2 p3 p4=>
                 rw[h1]at hm1
                 injection hm1 with hm1
                 injection hm1 with a1 a2 a3
                 injection a1 with a1
                 injection a1 with a1
                 subst a1;subst a2;subst a3
                 have hu:(Value.slice (if cap=0 then some ⟨g,0,none⟩else some ⟨g,0*i.size,none⟩) (k - 0) (cap - 0))= .slice (some ⟨g,0,none⟩) k cap:=by simp
                 rw[hu]at hxv
                 have m1:k*i.size≤l.length*i.size:=Nat.mul_le_mul_right _ hk0
                 have hxl:xs.length=l.length*i.size:=h3.1
                 have hlen:l'.length=k:=by rw[←hll,List.length_take];omega
                 have hown:OwR w B U' i.size (.slice (some ⟨g,0,none⟩) k cap) k (xs.take (k*i.size)):=by
                  refine⟨by rw[List.length_take];omega, ?_⟩
                  rcases h3.2 with⟨h6,h7⟩|⟨g',cap',cur,hv',q1,q2,q3,q4,q5,q6⟩
                  · omega
                  · injection hv' with r1 r2 r3
                    injection r1 with r1
                    injection r1 with r1
                    subst r1;subst r3
                    exact .inr ⟨g,cap,cur,rfl,q1,q2,by omega,q4,q5,by rw[←q6,List.take_take,Nat.min_eq_left m1]⟩
                 have hsz:szT P U'=some i.size:=by simp[szT,i1]
                 obtain⟨t1,t2⟩:=K.app (w':=w) (u':= .slice (some ⟨g,0,none⟩) k cap) (x:= .rw U' i.size l') hlive h1 (blk_own _ ⟨_,_,_,rfl⟩) hib hdd hmm (World.grownBy_refl w _) (fun g hg=> .inl hg) (fun _ _ e=>by cases e) (fun T z l2 e=>by
                  injection e with e1 e2 e3
                  subst e1;subst e2;subst e3
                  refine⟨_,fun cs hcs=> ?_,by rw[hlen];exact hown,fun u hu=>h4 u (List.mem_of_mem_take hu),fun q y' hq=> ?_⟩
                  · rw[←hll]at hcs;exact h2 cs (List.mem_of_mem_take hcs)
                  · rw[←hll,(flat_take k h2).1,List.getElem?_take]at hq
                    split at hq
                    · rename_i h8
                      rw[List.getD_eq_getElem?_getD,List.getElem?_take,if_pos h8,←List.getD_eq_getElem?_getD]
                      exact h5 q y' hq
                    · cases hq) rfl
                 refine Exec.val (w':=w) (hexec (u:= .slice (some ⟨g,0,none⟩) k cap) ?_) ⟨_,t1,.ow _ _ _ _ _ upd_eq,t2,Bl.refl _ _,fun c hc=> ?_⟩
                 · rw[hxv,hyv,Nat.sub_self]
                   split<;>exact append_none hd hsz (by omega)
                 · by_cases e:c=σ.h.length
                   · subst e;exact .inr (by simp)
                   · rw[upd_ne e]at hc;exact .inl hc
             · cases e
           · cases e
         · cases e
       · rename_i l2 hye
         rw[hye]at hy
         split at e
         · rename_i k9 hnil sc'
           split at e
           · rename_i b hxe
             rw[hxe]at hx
             split at e
             · rename_i U zz l hb
               injection e with e
               subst e
               have hkey:=hk _ (List.mem_singleton.2 rfl)
               simp only[List.cons.injEq,V.sl.injEq,and_true]at hkey
               subst hkey
               subst hnil
               obtain⟨v1,xs,h1,h2,h3,h4,h5⟩:=K.rw b U zz l ((hr b (by simp)).trans hb)
               generalize hxv:a.eval x=u at hx
               generalize hyv:a.eval y=v at hy
               cases hx with
               | ow _ _ ad k2 c2 hm2 =>
                 cases hy with
                 |sl _ ad2 b2 off c3 z3 _ us q1 q2 q3 q4 q5 q6=>
                   have hle:k2≤c2:=by
                    rw[h1]at hm2
                    injection hm2 with hm2
                    subst hm2
                    rcases h3.2 with⟨h6,h7⟩|⟨g',cap',cur,h6,_,_,h7,_⟩
                    · injection h6 with _ e1 e2;omega
                    · injection h6 with _ e1 e2;omega
                   have hsz:szT P el=some i.size:=by simp[szT,i1]
                   refine Exec.val (w':=w) (hexec (u:= .slice ad k2 c2) ?_) (.same K (.ow _ _ _ _ _ hm2))
                   rw[hxv,hyv]
                   exact append_none hd hsz hle
             · cases e
           · cases e
         · rename_i l0 k9 l' n0 z0 hll h0 hn0 hz sc'
           split at e
           · rename_i hlim
             simp only[apLim,Bool.and_eq_true,Nat.ble_eq]at hlim
             have hz0:=Nat.eq_of_beq_eq_true hlim.1
             subst hz0
             have hlim:n0*i.bytes≤140737488355328∧n0≤maxLen:=hlim.2
             have src : l2 = k9 → ∃ A cap xs, a.eval y = .slice (some A) k9.length cap ∧ (∀ cs ∈ k9, cs.length = i.size) ∧ List.length xs = k9.length * i.size ∧ (∀ j u, xs[j]? = some u → w.cell? (A.add j) = some u) ∧ (∀ u ∈ xs, Value.oneCell' u = true) ∧ ∀ (j : Nat) (x : V), k9.flatten[j]? = some x → Rep w (Av M h m) no (List.getD xs j undef) x := by
              intro hl2
              subst hl2
              generalize hv:a.eval y=u at hy
              cases hy with
              | sl _ ad b off c' zz _ us h1 h2 h3 h4 h5 h6 =>
                obtain⟨rfl,hA,hB⟩:=h3 h0
                have hzz:zz=i.size:=by
                 have h7:=List.getElem_mem (l:=l2) h0
                 rw[←h4 _ h7,(hz _ h7).1]
                subst hzz
                have hlen':∀ cs∈l2,cs.length=i.size:=fun cs hcs=>(hz cs hcs).1
                have hcell:∀ j,j<l2.length*i.size→∃ cs x,l2[j / i.size]? =some cs∧cs[j % i.size]? =some x:=fun j hj=>by
                 have q1:j / i.size<l2.length:=(Nat.div_lt_iff_lt_mul i4).2 hj
                 have q2:j % i.size<i.size:=Nat.mod_lt _ i4
                 refine⟨_,_,List.getElem?_eq_getElem q1,List.getElem?_eq_getElem (by rw[hlen' _ (List.getElem_mem _)];exact q2)⟩
                have hdm:∀ j,(j / i.size)*i.size+j % i.size=j:=fun j=>by rw[Nat.mul_comm];exact Nat.div_add_mod j i.size
                have hget:∀ j,j<l2.length*i.size→((List.range (l2.length*i.size)).map fun q=>us (q / i.size) (q % i.size))[j]? =some (us (j / i.size) (j % i.size)):=fun j hj=>by
                 rw[List.getElem?_map,List.getElem?_range hj];rfl
                refine⟨⟨b,off,none⟩,c',(List.range (l2.length*i.size)).map fun q=>us (q / i.size) (q % i.size),rfl,hlen',by simp,fun j u' hu=> ?_,fun u' hu=> ?_,fun j x hx=> ?_⟩
                · have hj:j<l2.length*i.size:=by have:=(List.getElem?_eq_some_iff.1 hu).1;simpa using this
                  rw[hget j hj]at hu
                  injection hu with hu
                  subst hu
                  obtain⟨cs,x,g1,g2⟩:=hcell j hj
                  have:=h5 _ _ cs x g1 g2
                  rw[Nat.add_assoc,hdm]at this
                  rw[Addr.add_lit]
                  exact this
                · obtain⟨q,hq,rfl⟩:=List.mem_map.1 hu
                  obtain⟨cs,x,g1,g2⟩:=hcell q (by simpa using hq)
                  have h8:=(hz cs (List.mem_of_getElem? g1)).2
                  rw[List.all_eq_true]at h8
                  exact one_cell (h6 _ _ cs x g1 g2) (h8 x (List.mem_of_getElem? g2))
                · have hj:j<l2.length*i.size:=by
                   have:=(List.getElem?_eq_some_iff.1 hx).1
                   rwa [flat_len hlen']at this
                  rw[List.getD_eq_getElem?_getD,hget j hj]
                  obtain⟨cs,y',g1,g2⟩:=hcell j hj
                  have h8:=flat_get hlen' g1 g2
                  rw[hdm,hx]at h8
                  injection h8 with h8
                  subst h8
                  exact h6 _ _ cs x g1 g2
             have hlen:l'.length=l0.length+k9.length:=by rw[←hll,List.length_append]
             have kc:l0.length+k9.length≤maxLen:=by omega
             have hb2':(l0.length+k9.length)*i.bytes≤140737488355328:=Nat.le_trans (Nat.mul_le_mul_right _ (by omega)) hlim.1
             -- the new row
             have row : ∀ {xs news : List Value} {w' : World} {u' : Value}, (∀ cs ∈ l0, cs.length = i.size) → (∀ cs ∈ k9, cs.length = i.size) → xs.length = l0.length * i.size → (∀ u ∈ xs, u.oneCell' = true) → (∀ u ∈ news, u.oneCell' = true) → (∀ (j : Nat) (x : V), l0.flatten[j]? = some x → Rep w (Av M h m) no (xs.getD j undef) x) → (∀ (j : Nat) (x : V), k9.flatten[j]? = some x → Rep w (Av M h m) no (news.getD j undef) x) → OwR w' B el i.size u' (l0.length + k9.length) (xs ++ news) →
               ∀ T z l,HO.rw el i.size l'= .rw T z l→∃ xs,(∀ cs∈l,cs.length=z)∧OwR w' B T z u' l.length xs∧(∀ u∈xs,u.oneCell'=true)∧∀ j x,l.flatten[j]? =some x→Rep w (Av M h m) no (xs.getD j undef) x:=by
              intro xs news w' u' k1 k2 k3 k4 k5 k6 k7 k8 T z l e
              injection e with e1 e2 e3
              subst e1;subst e2;subst e3
              refine⟨xs++news,fun cs hcs=> ?_,by rw[hlen];exact k8,fun u hu=>(List.mem_append.1 hu).elim (k4 u) (k5 u),fun j x hx=> ?_⟩
              · rw[←hll]at hcs
                exact(List.mem_append.1 hcs).elim (k1 cs) (k2 cs)
              · rw[←hll,List.flatten_append]at hx
                have hfl:=flat_len k1
                rcases Nat.lt_or_ge j l0.flatten.length with hj|hj
                · rw[List.getElem?_append_left hj]at hx
                  rw[List.getD_eq_getElem?_getD,List.getElem?_append_left (by omega),←List.getD_eq_getElem?_getD]
                  exact k6 j x hx
                · rw[List.getElem?_append_right hj]at hx
                  rw[List.getD_eq_getElem?_getD,List.getElem?_append_right (by omega),←List.getD_eq_getElem?_getD,show xs.length=l0.flatten.length by omega]
                  exact k7 _ x hx
             split at e
             · rename_i b hxe
               rw[hxe]at hx
               split at e
               · rename_i U' z l hb
                 split at e
                 · rename_i hcc
                   simp only[Bool.and_eq_true]at hcc
                   have hU':=Nat.eq_of_beq_eq_true hcc.1
                   have hz':=Nat.eq_of_beq_eq_true hcc.2
                   subst hU';subst hz'
                   injection e with e
                   subst e
                   have hkey:=hk _ (List.mem_singleton.2 rfl)
                   simp only[List.cons.injEq,V.sl.injEq,and_true]at hkey
                   obtain⟨rfl,rfl⟩:=hkey
                   obtain⟨A,cap,news,s1,s2,s3,s4,s5,s6⟩:=src rfl
                   have hbb:=hr b (by simp)
                   have hlive:(h b).own=true:=by rw[hbb,hb];rfl
                   obtain⟨v1,xs,h1,h2,h3,h4,h5⟩:=K.rw b U' i.size l (hbb.trans hb)
                   obtain⟨hdd,hmm⟩:=hn σ.h.length (by simp) (Nat.le_refl _)
                   have hib:σ.h.length≠b:=fun e=>by rw[←e,hmm]at h1;cases h1
                   generalize hxv:a.eval x=u at hx
                   cases hx with
                   |ow _ _ ad k2 c2 hm2=>
                     rw[h1]at hm2
                     injection hm2 with hm2
                     subst hm2
                     refine fin ⟨_,_,_,rfl⟩ hxv s1 h3 s3 s4 s5 h0 kc hb2' fun u' w' r2 r3 r4 r5=> ?_
                     obtain⟨t1,t2⟩:=K.app (x:= .rw U' i.size l') hlive h1 (blk_own _ ⟨_,_,_,rfl⟩) hib hdd hmm r3 r5 (fun _ _ e=>by cases e) (row h2 s2 h3.1 h4 s5 h5 s6 r2) rfl
                     obtain⟨A',c',r4⟩:=r4
                     subst r4
                     refine⟨_,t1,.ow _ _ _ _ _ upd_eq,t2,Bl.grown r3 K.bs fun k hk=>(K.blk hlive h1 ((blk_own _ ⟨_,_,_,rfl⟩).trans hk)).1,fun c hc=> ?_⟩
                     by_cases e:c=σ.h.length
                     · subst e;exact .inr (by simp)
                     · rw[upd_ne e]at hc;exact .inl hc
                 · cases e
               · cases e
             · rename_i hxe
               rw[hxe]at hx
               injection e with e
               subst e
               have hkey:=hk _ (List.mem_singleton.2 rfl)
               simp only[List.cons.injEq,V.sl.injEq,and_true]at hkey
               obtain⟨hl0,rfl⟩:=hkey
               subst hl0
               obtain⟨A,cap,news,s1,s2,s3,s4,s5,s6⟩:=src rfl
               obtain⟨hdd,hmm⟩:=hn σ.h.length (by simp) (Nat.le_refl _)
               generalize hxv:a.eval x=u at hx
               cases hx with
               |nl=>
                 refine fin (xs:=[]) ⟨_,_,_,rfl⟩ hxv s1 ⟨by simp,.inl ⟨rfl,rfl⟩⟩ s3 s4 s5 h0 kc hb2' fun u' w' r2 r3 r4 r5=> ?_
                 have hbel:Below w.heap.size w w':=(Below.refl _ _).grown r3 (Nat.le_refl _) fun k hk=>by cases hk
                 have hu:∀ g,E.blk u'=some g→w.heap.size≤g:=fun g hg=>(r5 g hg).elim (fun e=>by cases e) id
                 obtain⟨A',c',r4⟩:=r4
                 subst r4
                 refine⟨_,K.new (x:= .rw el i.size l') hdd hmm hu hbel (fun _ _ e=>by cases e) (row (fun _ h=>by simp at h) s2 (by simp) (fun _ h=>by simp at h) s5 (fun j x h=>by simp at h) s6 r2) (fun _ e=>by cases e),.ow _ _ _ _ _ upd_eq,.new hdd hmm hu hbel,Bl.of hbel K.bs,fun c hc=> ?_⟩
                 by_cases e:c=σ.h.length
                 · subst e;exact .inr (by simp)
                 · rw[upd_ne e]at hc;exact .inl hc
             · cases e
           · cases e
         · cases e
       · cases e
     · cases e
   · cases e
 · cases e
end
end Go.Proofs.YtfdfbenejkmnlaaGreatDoor.E
