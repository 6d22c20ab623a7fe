/-
 THE SECOND ENGINE, 7: stores, new rows.
-/
import Derived.Test.YtfdfbenejkmnlaaGreatDoorEmF1
import Derived.Laws.MakeOwn
import Derived.Laws.CopyOwn
namespace Go.Proofs.YtfdfbenejkmnlaaGreatDoor.E
open Go.RowKit
set_option linter.unusedVariables false
set_option linter.unusedSimpArgs false
section
variable {B:Nat→Prop} {M:Nat→Prop} {h:Nat→HO} {m m':Nat→Option Value} {w w':World} {A A':Nat→Prop} {P:Program} {σ:St} {a:Act} {o:Oper} {sc:List (Fa P)} {r:R P}
/-- A store into an element of an own row. -/
theorem put_ok (K : Ok B M h m w) {T : TypeId} {p x : Operand} (ho : o.op = .store T p x) {b z i off U : Nat} {l l' : List (List V)} {cs new ys : List V} {sc2 : List (Fa P)} {ks2 : Ks} (hp : σ.ev p = .rp b z i off) (hb : h b = .rw U z l)
  (hes:exps (exp σ.ho 5) (ceV (σ.evT P T x))=some (ys,[])) (hf:l[i]? =some cs) (hl':l.set i new=l') (hnew:splice cs off ys=new) (c2:szT P T=some (ceV (σ.evT P T x)).length) (c3:off+ys.length≤z) (c4:(ceV (σ.evT P T x)).all one=true)
  (H:Opd w (Av M h m) m o a σ):Goal_ B M P o a h m w (⟨.un,[(b,.rw U z l')],[],sc2,ks2⟩:R P):=by
 have hx:=H.evT (P:=P) (T:=T) (x:=x) (by simp[ho,Op.operands])
 have hpp:=H.ev (x:=p) (by simp[ho,Op.operands])
 rw[hp]at hpp
 obtain⟨v,xs,h1,h2,h3,h4,h5⟩:=K.rw b U z l hb
 have hil:=(List.getElem?_eq_some_iff.1 hf).1
 have hcs:=h2 cs (List.mem_of_getElem? hf)
 obtain⟨k1,k2,k3⟩:=ce_rep hx c4
 obtain⟨e1,e2⟩:=exps_nil K hes
 have hnl:new.length=z:=by rw[←hnew,(splice_get (by omega) 0).1,hcs]
 have hll:l'.length=l.length:=by rw[←hl',List.length_set]
 generalize hu:a.eval p=u at hpp
 cases hpp with
 | rp _ _ _ _ _ g n' c' hg =>
  rw[h1]at hg
  injection hg with hg
  subst hg
  rcases h3.2 with⟨h6,h7⟩|⟨g',cap,cur,hv,hB,hh,hn,hc,hsz,htk⟩
  · omega
  · injection hv with hv1 hv2 hv3
    injection hv1 with hv1
    injection hv1 with hv1
    subst hv1;subst hv2;subst hv3
    have hb1:i*z+z≤l.length*z:=by rw[←Nat.succ_mul];exact Nat.mul_le_mul_right _ hil
    have hb2:l.length*z≤c'*z:=Nat.mul_le_mul_right _ hn
    obtain⟨w',cs',q1,q2,q3,q4,q5,q6,q7⟩:=run_storeCells (P:=P) (g:=g) (o:=i*z+off) (T:=U) (a.eval x).cells.toList 0 w cur k3 hh (by rw[Array.length_toList,Nat.add_zero,k1,hsz];omega)
    rw[Array.length_toList]at q6 q7
    have hd:(h b).own=true:=by rw[hb];rfl
    have hold:∀ j,j<l.length*z→xs[j]? =some (cur.getD j undef):=fun j hj=>by
     rw[←htk,List.getElem?_take,if_pos hj,Array.getElem?_toList,Array.getElem?_eq_getElem (by omega),Array.getD_eq_getD_getElem?,Array.getElem?_eq_getElem (by omega)];rfl
    have hnw:∀ j,j<l.length*z→(cs'.toList.take (l.length*z))[j]? =some (cs'.getD j undef):=fun j hj=>by
     rw[List.getElem?_take,if_pos hj,Array.getElem?_toList,Array.getElem?_eq_getElem (by omega),Array.getD_eq_getD_getElem?,Array.getElem?_eq_getElem (by omega)];rfl
    have hout:∀ j,¬(i*z+off≤j∧j<i*z+off+ys.length)→cs'.getD j undef=cur.getD j undef:=fun j hj=>by
     rcases Nat.lt_or_ge j (i*z+off)with h8|h8
     · exact q5 j (by omega)
     · exact q6 j (by omega)
    have hinn:∀ q,q<ys.length→cs'.getD (i*z+off+q) undef=(a.eval x).cells.getD q undef:=fun q hq=>by
     have:=q7 q (by omega)
     rw[show i*z+off+0+q=i*z+off+q by omega,getD_toList]at this
     exact this
    have htl:(cs'.toList.take (l.length*z)).length=l.length*z:=by rw[List.length_take,show cs'.toList.length=c'*z from q4.trans hsz];exact Nat.min_eq_left hb2
    have hq4:cs'.size=c'*z:=q4.trans hsz
    obtain ⟨t1, t2⟩ := K.turn (x := .rw U z l') (u := .slice (some ⟨g, 0, none⟩) l.length c') (g := g) hd h1 rfl q2 (fun _ _ e => by cases e) (fun T' z' l2 e => by
     injection e with e1' e2' e3'
     subst e1';subst e2';subst e3'
     refine⟨cs'.toList.take (l.length*z),fun d hd'=> ?_,⟨by rw[htl,hll],.inr ⟨g,c',cs',by rw[hll],hB,q3,by rw[hll];exact hn,hc,hq4,by rw[hll]⟩⟩,fun u' hu'=> ?_,fun j y hy=> ?_⟩
     · rw[←hl']at hd'
       rcases List.mem_or_eq_of_mem_set hd' with h8|h8
       · exact h2 d h8
       · rw[h8];exact hnl
     · obtain⟨j,hj⟩:=List.getElem?_of_mem hu'
       have hjl:j<l.length*z:=by
        have:=(List.getElem?_eq_some_iff.1 hj).1
        rw[htl]at this
        exact this
       rw[hnw j hjl]at hj
       injection hj with hj
       subst hj
       by_cases hj2:i*z+off≤j∧j<i*z+off+ys.length
       · have h9:=hinn (j - (i*z+off)) (by omega)
         rw[show i*z+off+(j - (i*z+off))=j by omega]at h9
         rw[h9]
         have hlt:j - (i*z+off)<(a.eval x).cells.size:=by omega
         refine k3 _ ?_
         rw[Array.getD_eq_getD_getElem?,Array.getElem?_eq_getElem hlt]
         exact Array.mem_toList_iff.2 (Array.getElem_mem _)
       · rw[hout j hj2]
         exact h4 _ (List.mem_of_getElem? (hold j hjl))
     · have hjl:j<l.length*z:=by
        have:=(List.getElem?_eq_some_iff.1 hy).1
        rw[flat_len (z:=z) (fun d hd'=>by
         rw[←hl']at hd'
         rcases List.mem_or_eq_of_mem_set hd' with h8|h8
         · exact h2 d h8
         · rw[h8];exact hnl),hll]at this
        exact this
       rw[List.getD_eq_getElem?_getD,hnw j hjl]
       show Rep w _ no (cs'.getD j undef) y
       rw[←hl',flat_set hnl j h2 hil]at hy
       have hkeep:l.flatten[j]? =some y→¬(i*z+off≤j∧j<i*z+off+ys.length)→Rep w (Av M h m) no (cs'.getD j undef) y:=fun hy hj2=>by
        rw[hout j hj2]
        have:=h5 j y hy
        rw[List.getD_eq_getElem?_getD,hold j hjl]at this
        exact this
       split at hy
       · rename_i hj2
         rw[←hnew,(splice_get (by omega) _).2]at hy
         split at hy
         · rename_i hj3
           have h9:=hinn (j - (i*z+off)) (by omega)
           rw[show i*z+off+(j - (i*z+off))=j by omega]at h9
           rw[h9]
           refine e2 _ y (by rw[show j - (i*z+off)=j - i*z - off by omega];exact hy) _ fun y' hy'=>k2 _ _ hy'
         · rename_i hj3
           refine hkeep ?_ (by omega)
           have:=flat_get h2 hf hy
           rwa [show i*z+(j - i*z)=j by omega]at this
       · rename_i hj2
         exact hkeep hy (by omega)) rfl
    refine .inr (.inl ⟨w', ?_,m,t1,.un _ _,t2,q2.below hB,fun c hc=> .inl hc⟩)
    simp only[execOp,ho,Instr.storeAt,hu,Instr.sureAddr,storeVar,Sem.run_bind,Sem.run_pure,Result.andThen_ok,run_size c2]
    rw[if_neg (by rw[k1];simp)]
    simp[q1]
theorem store_ok (K : Ok B M h m w) {T : TypeId} {p x : Operand} (ho : o.op = .store T p x) (e : aop P o σ sc = some r) (hk : ∀ p ∈ r.ks, p.1 = p.2) (H : Opd w (Av M h m) m o a σ) (hh : ∀ b ∈ r.ws.map (·.1), b < σ.h.length → h b = σ.ho b) : Goal_ B M P o a h m w r := by
 simp only[aop,ho]at e
 split at e
 · rename_i b off hp
   split at e
   · rename_i U l hb
     split at e
     · rename_i hc
       injection e with e
       subst e
       simp only[Bool.and_eq_true,Nat.ble_eq]at hc
       obtain⟨⟨c2,c3⟩,c4⟩:=hc
       have hbl:b<σ.h.length:=by
        rcases Nat.lt_or_ge b σ.h.length with e|e
        · exact e
        · have h1:σ.ho b= .dead:=by simp only[St.ho,List.getD_eq_getElem?_getD,List.getElem?_eq_none e];rfl
          rw[h1]at hb;cases hb
       have hb':=(hh b (by simp) hbl).trans hb
       have hx:=H.evT (P:=P) (T:=T) (x:=x) (by simp[ho,Op.operands])
       have hpp:=H.ev (x:=p) (by simp[ho,Op.operands])
       rw[hp]at hpp
       obtain⟨g,cs,h1,h2,h3,h4,h5⟩:=K.bx b U l hb'
       obtain⟨k1,k2,k3⟩:=ce_rep hx c4
       generalize hu:a.eval p=u at hpp
       cases hpp with
       | lp _ _ _ g' hg =>
         rw[h1]at hg
         injection hg with hg
         injection hg with hg
         injection hg with hg
         injection hg with hg
         subst hg
         obtain⟨w',cs',q1,q2,q3,q4,q5,q6,q7⟩:=run_storeCells (P:=P) (g:=g) (o:=off) (T:=U) (a.eval x).cells.toList 0 w cs k3 h3 (by rw[Array.length_toList,Nat.add_zero,k1,h4];exact c3)
         have hd:(h b).own=true:=by rw[hb'];rfl
         obtain⟨t1,t2⟩:=K.turn (x:= .bx U (splice l off (ceV (σ.evT P T x)))) (u:= .pointer (some ⟨g,0,none⟩)) (g:=g) hd h1 rfl q2 (fun T' l' e=>by
          injection e with e1 e2
          subst e1;subst e2
          refine⟨cs',rfl,q3,by rw[q4,h4,(splice_get c3 0).1],fun j y hy=> ?_⟩
          rw[(splice_get c3 j).2]at hy
          rw[Array.length_toList]at q6 q7
          split at hy
          · rename_i hj
            have h6:=q7 (j - off) (by rw[k1];omega)
            rw[show off+0+(j - off)=j by omega,getD_toList]at h6
            rw[h6]
            exact k2 _ _ hy
          · rename_i hj
            have hjl:=(List.getElem?_eq_some_iff.1 hy).1
            have h6:cs'.getD j undef=cs.getD j undef:=by
             rcases Nat.lt_or_ge j off with h7|h7
             · exact q5 j (by omega)
             · exact q6 j (by omega)
            rw[h6]
            exact h5 j y hy) (fun _ _ _ e=>by cases e) rfl
         refine .inr (.inl ⟨w', ?_,m,t1,.un _ _,t2,q2.below h2,fun c hc=> .inl hc⟩)
         have hsz:∃ n,szT P T=some n∧n=(a.eval x).cells.size:=by
          split at c2
          · rename_i n hn
            exact⟨n,hn,(Nat.eq_of_beq_eq_true c2).trans k1.symm⟩
          · cases c2
         obtain⟨n,hn1,hn2⟩:=hsz
         simp only[execOp,ho,Instr.storeAt,hu,Instr.sureAddr,storeVar,Sem.run_bind,Sem.run_pure,Result.andThen_ok,run_size hn1]
         rw[if_neg (by rw[hn2];simp)]
         simp[q1]
     · cases e
   · cases e
 · rename_i b z i off hp
   split at e
   · rename_i U z' l ys l0 i0 cs new l' hf hl' sc' hb hes
     split at e
     · rename_i hc
       injection e with e
       subst e
       simp only[Bool.and_eq_true,Nat.ble_eq]at hc
       obtain⟨c2,c3,c4,c5,c6⟩:=hc
       have c2:=Nat.eq_of_beq_eq_true c2
       subst c2
       have hkey:=hk _ (List.mem_singleton.2 rfl)
       simp only[List.cons.injEq,V.sl.injEq,V.k.injEq,V.ag.injEq,Value.int.injEq,true_and,and_true]at hkey
       obtain⟨rfl,hi,hnew⟩:=hkey
       have hi:i=i0:=by omega
       subst hi
       have hbl:b<σ.h.length:=by
        rcases Nat.lt_or_ge b σ.h.length with e|e
        · exact e
        · have h1:σ.ho b= .dead:=by simp only[St.ho,List.getD_eq_getElem?_getD,List.getElem?_eq_none e];rfl
          rw[h1]at hb;cases hb
       have hsz:szT P T=some (ceV (σ.evT P T x)).length:=by
        split at c3
        · rename_i n hn
          rw[hn,Nat.eq_of_beq_eq_true c3]
        · cases c3
       exact put_ok K ho hp ((hh b (by simp) hbl).trans hb) hes hf hl' hnew hsz c4 c6 H
     · cases e
   · cases e
 · cases e
theorem bs_new {σ:St} {e:TypeId} {n len:Nat} {ps:List (Nat×V)} {sc:List (Fa P)} {r:R P} (h:bsV σ e n len ps sc=some r):∀ b∈r.ws.map (·.1),σ.h.length≤b:=by
 unfold bsV at h
 split at h
 · split at h
   · split at h
     · injection h with h;subst h;intro b hb;simp at hb;omega
     · cases h
   · cases h
 · cases h
theorem bs_ok (K : Ok B M h m w) {T : TypeId} {len : Nat} {ps : Array (Nat × Operand)} (ho : o.op = .buildSlice T len ps) {el : TypeId} {n : Nat} {zz : Value × List V} (hd : P.underlying T = some (.slice el)) (hsz : szT P el = some n) (hz : zeroV P el = some zz) {sc : List (Fa P)} (e : bsV σ el n len (ps.toList.map fun x => (x.1, σ.evT P el x.2)) sc = some r) (H : Opd w (Av M h m) m o a σ) (hn : ∀ b ∈ r.ws.map (·.1), σ.h.length ≤ b → h b = .dead ∧ m b = none) : Goal_ B M P o a h m w r := by
 obtain⟨z,zl⟩:=zz
 unfold bsV at e
 split at e
 · rename_i l hl
   split at e
   · rename_i ys hys
     split at e
     · rename_i hc
       simp only[Bool.and_eq_true,Nat.ble_eq]at hc
       obtain⟨⟨c1,c0⟩,c2⟩:=hc
       obtain⟨z1,z2,z3⟩:=zero_ok (w:=w) (A:=Av M h m) (m:=m) hz
       let zero:Array Value:=if len*n=0 then #[]else z.cells
       let base:Array Value:=(Array.range (len*n)).map (zero[· % zero.size]!)
       obtain⟨cs',g1,g2,g3⟩:=fill_ok (w:=w) (A:=Av M h m) (m:=m) (ps.toList.map fun x=>(x.1,σ.evT P el x.2)) (ps.toList.map fun x=>(x.1,a.eval x.2)) (List.replicate (len*n) .un) base l hl (by simp[base]) (fun j x hx=>by
        rw[List.getElem?_replicate]at hx
        split at hx
        · injection hx with hx;subst hx;exact .un _ _
        · cases hx) (by simp) (fun i p u hp hu=>by
        simp only[List.getElem?_map,Option.map_eq_some_iff]at hp hu
        obtain⟨q,hq,rfl⟩:=hp
        obtain⟨q',hq',rfl⟩:=hu
        rw[hq]at hq'
        injection hq' with hq'
        subst hq'
        exact⟨rfl,H.evT (by rw[ho];simp only[Op.operands,List.mem_map];exact⟨q,List.mem_of_getElem? hq,rfl⟩)⟩)
       have hll:l.length=len*n:=by
        have : ∀ (ps : List (Nat × V)) (z l : List V), fillV (fun i => some (i * n, n)) z ps = some l → l.length = z.length := by
         intro ps
         induction ps with
         |nil=>intro z l h;simp only[fillV,Option.some.injEq]at h;subst h;rfl
         |cons p r ih=>
           intro z l h
           obtain⟨i,v⟩:=p
           simp only[fillV]at h
           split at h
           · rename_i hc
             simp only[Bool.and_eq_true,Nat.ble_eq]at hc
             rw[ih _ _ h,(splice_get hc.1.2 0).1]
           · cases h
        rw[this _ _ _ hl];simp
       obtain⟨y1,y2⟩:=exps_nil K hys
       have hrep:∀ j y,ys[j]? =some y→Rep w (Av M h m) no (cs'.toList.getD j undef) y:=fun j y hy=>by
        rw[getD_toList]
        exact y2 j y hy _ fun x hx=>g3 j x hx
       have hcl:cs'.toList.length=ys.length:=by rw[Array.length_toList,g2,y1]
       have hone:=rep_one hcl hrep c2
       have hb:Below w.heap.size w (w.alloc (.cells cs' el)):=(Below.refl _ _).alloc (Nat.le_refl _) _
       have hu:∀ g,E.blk (.slice (some ⟨w.heap.size,0,none⟩) len len)=some g→w.heap.size≤g:=fun g e=>by simp only[E.blk,Option.some.injEq]at e;omega
       have hrun:(execOp a.eval o).run P w= .ok (.value (.slice (some ⟨w.heap.size,0,none⟩) len len)) (w.alloc (.cells cs' el)):=by
        have hbig:¬len*n>2 ^ 24:=by omega
        by_cases h0:len*n=0
        · simp only[base,zero,if_pos h0]at g1
          simp[execOp,ho,Instr.buildSlice,run_under hd,run_size hsz,h0,Array.toList_map,newRow]at g1⊢
          simp[g1]
        · simp only[base,zero,if_neg h0]at g1
          simp[execOp,ho,Instr.buildSlice,run_under hd,run_size hsz,hbig,h0,z1,Array.toList_map,newRow,g1]
       have hown:OwR (w.alloc (.cells cs' el)) B el n (.slice (some ⟨w.heap.size,0,none⟩) len len) len cs'.toList:=
        ⟨by rw[Array.length_toList,g2,hll],.inr ⟨w.heap.size,len,cs',rfl,fun e=>Nat.lt_irrefl _ (K.bs _ e),by show(w.heap.push _)[w.heap.size]? =_;simp,Nat.le_refl _,Nat.le_trans c0 (by decide),by rw[g2,hll],by rw[List.take_of_length_le];rw[Array.length_toList,g2,hll];exact Nat.le_refl _⟩⟩
       injection e with e
       subst e
       obtain⟨hdd,hmm⟩:=hn σ.h.length (by simp) (Nat.le_refl _)
       obtain⟨k1,k2,k3⟩:=chunks_ok (n:=n) len ys (by rw[y1,hll])
       refine Exec.val hrun ⟨upd m σ.h.length (some (.slice (some ⟨w.heap.size,0,none⟩) len len)),K.new hdd hmm hu hb (fun U l' e=>by cases e) (fun U z' l' e=> ?_) (fun l' e=>by cases e),.ow _ _ _ _ _ upd_eq,.new hdd hmm hu hb,Bl.of hb K.bs,fun c hc=> ?_⟩
       · injection e with e1 e2 e3
         subst e1;subst e2;subst e3
         exact⟨cs'.toList,k2,by rw[k1];exact hown,hone,fun j x hx=>hrep j x (by rw[←k3];exact hx)⟩
       · by_cases e:c=σ.h.length
         · subst e;exact .inr (by simp)
         · rw[upd_ne e]at hc;exact .inl hc
     · cases e
   · cases e
 · cases e
theorem Exec.imp {Q Q':Value→World→Prop} (h:Exec P o a w Q) (i:∀ u w',Q u w'→Q' u w'):Exec P o a w Q':=by
 rcases h with⟨u,w',h1,h2⟩|⟨w',h1,h2⟩|⟨f,args,h1,h2⟩
 · exact .inl ⟨u,w',h1,i _ _ h2⟩
 · exact .inr (.inl ⟨w',h1,i _ _ h2⟩)
 · exact .inr (.inr ⟨f,args,h1,h2.mono fun e w' ⟨u,q1,q2⟩=>⟨u,q1,i _ _ q2⟩⟩)
theorem ro_ok {r':R P} (e:roV r=some r') (hd:∀ b∈r'.ws.map (·.1),h b= .dead) (G:Goal_ B M P o a h m w r):Goal_ B M P o a h m w r':=by
 unfold roV at e
 split at e
 · rename_i j i x hv hw
   split at e
   · rename_i y q hij he
     have hij:=Nat.eq_of_beq_eq_true hij
     subst hij
     injection e with e
     subst e
     have hdj:h j= .dead:=hd j (by simp)
     have hq:q=j:=by
      simp only[exp]at he
      cases x<;>simp at he<;>exact he.2.symm
     subst hq
     refine Exec.imp G fun u w'=> ?_
     rw[hv,hw]
     rintro ⟨m',K',hr,hmo,hb,hn⟩
     have hu:upds h [(q,x)]=upd h q x:=rfl
     have hk:upd (upd h q x) q .dead=upds h [(q,.dead)]:=by
      funext c
      by_cases hc:c=q
      · subst hc;rw[upd_eq];exact upd_eq.symm
      · rw[upd_ne hc,upd_ne hc];exact(upd_ne hc).symm
     rw[hu]at K' hr hmo
     have hx:x.own=true:=by
      cases x with
      |dead=>simp[exp]at he
      |fz y=>simp[exp]at he
      |mp l=>simp[exp]at he
      |bx=>rfl
      |rw=>rfl
     have kk:Ok B M (upds h [(q,.dead)]) m' w':=by rw[←hk];exact K'.kill q
     have mk:Mo w' (Av M (upd h q x) m') m' w' (Av M (upds h [(q,.dead)]) m') m':=by rw[←hk];exact Mo.kill
     have hy:=exp_rep (h0:=fun _=>x) (A':=Av M (upds h [(q,.dead)]) m') K' (fun g e=>(mk.av g e).elim id fun h=>absurd (kk.av_lt e) (by omega)) 2 _ _ _ he (fun b hb=>by
      obtain rfl:=List.mem_singleton.1 hb
      refine⟨upd_eq,fun v g h1 h2=> ?_⟩
      have:=kills_out (ks:=[b]) K' (List.mem_singleton.2 rfl) (by rw[upd_eq];exact hx) h1 h2
      rw[show upds (upd h b x) (kills [b])=upds h [(b,.dead)]from hk]at this
      exact this) _ hr
     exact⟨m',kk,hy.mo Mo.up,hmo.trans mk,hb,fun b hb'=>by simpa using hn b hb'⟩
   · cases e
 · cases e
theorem buildSlice_ok (K:Ok B M h m w) {T:TypeId} {len:Nat} {ps:Array (Nat×Operand)} (ho:o.op= .buildSlice T len ps) (e:aop P o σ sc=some r) (H:Opd w (Av M h m) m o a σ) (hn:∀ b∈r.ws.map (·.1),σ.h.length≤b→h b= .dead∧m b=none):Goal_ B M P o a h m w r:=by
 simp only[aop,ho]at e
 split at e
 · rename_i el hd
   split at e
   · rename_i n zz hsz hz
     split at e
     · split at e
       · rename_i r0 hr0
         have hlen : ∀ b ∈ r.ws.map (·.1), σ.h.length ≤ b := by
          unfold roV at e
          split at e
          · rename_i j i x hv hw
            split at e
            · injection e with e
              subst e
              have:=bs_new hr0 i (by rw[hw];simp)
              intro b hb
              simp at hb
              omega
            · cases e
          · cases e
         refine ro_ok e (fun b hb=>(hn b hb (hlen b hb)).1) (bs_ok K ho hd hsz hz hr0 H fun b hb hl=>hn b ?_ hl)
         unfold roV at e
         split at e
         · rename_i j i x hv hw
           split at e
           · injection e with e
             subst e
             rw[hw]at hb
             simpa using hb
           · cases e
         · cases e
       · cases e
     · exact bs_ok K ho hd hsz hz e H hn
   · cases e
 · cases e
end
end Go.Proofs.YtfdfbenejkmnlaaGreatDoor.E
