/-
 THE SECOND ENGINE, 9b: comparisons of aggregates, arrays as rows, strings of bytes, shorter rows, nil, new rows of numbers.
-/
import Derived.Test.YtfdfbenejkmnlaaGreatDoorEmF
import Derived.Laws.StructEq
import Derived.Laws.BytesString
import Derived.Lib.AppendZeros
namespace Go.Proofs.YtfdfbenejkmnlaaGreatDoor.E
open Go.RowKit
set_option linter.unusedVariables false
set_option linter.unusedSimpArgs false
section
variable {B:Nat→Prop} {M:Nat→Prop} {h:Nat→HO} {m m':Nat→Option Value} {w w':World} {A A':Nat→Prop} {P:Program} {σ:St} {a:Act} {o:Oper} {sc:List (Fa P)} {r:R P}
theorem kvs_of {l:List V} {cs:Array Value} (hk:l.all isK=true) (hs:cs.size=l.length) (hr:∀ j x,l[j]? =some x→Rep w A m (cs.getD j undef) x):cs=(l.map kv).toArray:=by
 apply Array.ext (by simp[hs])
 intro j h1 h2
 have hj:j<l.length:=by omega
 have hx:=hr j l[j] (List.getElem?_eq_getElem hj)
 have hkx:=List.all_eq_true.1 hk l[j] (List.getElem_mem hj)
 rw[Array.getD_eq_getD_getElem?,Array.getElem?_eq_getElem h1,Option.getD_some]at hx
 have e9:(l.map kv).toArray[j]=kv l[j]:=by simp
 rw[e9]
 generalize l[j]=x at*
 cases x with
 |k v=>exact Rep.k_inv hx
 |_=>cases hkx
theorem eqa_ok (K:Ok B M h m w) {T0:TypeId} {xs ys:List V} {b:Bool} (he:EqA P T0 xs ys b) (e:eqaV P o σ T0 xs ys b sc=some r) (hk:∀ p∈r.ks,p.1=p.2) (H:Opd w (Av M h m) m o a σ):Goal_ B M P o a h m w r:=by
 unfold eqaV at e
 split at e
 · rename_i op T x y U ho
   have hx:=H.ev (x:=x) (by simp[ho,Op.operands])
   have hy:=H.ev (x:=y) (by simp[ho,Op.operands])
   split at e
   · rename_i l1 l2 h1 h2
     split at e
     · rename_i hc
       simp only[Bool.and_eq_true,Bool.not_eq_true']at hc
       obtain⟨c1,c2,c3⟩:=hc
       rw[h1]at hx
       rw[h2]at hy
       generalize hu:a.eval x=u at hx
       generalize hv:a.eval y=v at hy
       cases hx with
       |ag _ cs _ s1 r1=>
         cases hy with
         |ag _ ds _ s2 r2=>
           have e1:=kvs_of c1 s1 r1
           have e2:=kvs_of c2 s2 r2
           split at e
           · injection e with e
             subst e
             have hkey:=hk _ (List.mem_singleton.2 rfl)
             simp only[List.cons.injEq,V.ag.injEq,V.k.injEq,Value.int.injEq,true_and,and_true]at hkey
             obtain⟨q1,rfl,rfl⟩:=hkey
             have q1:T=T0:=Int.ofNat.inj q1
             subst q1
             have hq:=he w
             rw[←e1,←e2]at hq
             have hq2:(Op.equalIn 10000 T (.agg cs) (.agg ds)).run P w= .ok b w:=hq
             have hg:(eqGuard .eql T x y (.agg cs) (.agg ds)).run P w= .ok () w:=by simp[eqGuard,c3]
             refine Exec.val (u:= .bool b) (w':=w) ?_ (.same K (.k _ _))
             simp[execOp,ho,hu,hv,hg,run_eql_struct,hq2]
           · injection e with e
             subst e
             have hkey:=hk _ (List.mem_singleton.2 rfl)
             simp only[List.cons.injEq,V.ag.injEq,V.k.injEq,Value.int.injEq,true_and,and_true]at hkey
             obtain⟨q1,rfl,rfl⟩:=hkey
             have q1:T=T0:=Int.ofNat.inj q1
             subst q1
             have hq:=he w
             rw[←e1,←e2]at hq
             have hq2:(Op.equalIn 10000 T (.agg cs) (.agg ds)).run P w= .ok b w:=hq
             have hg:(eqGuard .neq T x y (.agg cs) (.agg ds)).run P w= .ok () w:=by simp[eqGuard,c3]
             refine Exec.val (u:= .bool (!b)) (w':=w) ?_ (.same K (.k _ _))
             simp[execOp,ho,hu,hv,hg,run_neq_struct,hq2]
           · cases e
     · cases e
   · cases e
 · cases e
theorem arrS_ok (K:Ok B M h m w) (e:arrS P o σ sc=some r) (H:Opd w (Av M h m) m o a σ) (hr:∀ b∈r.rd,h b=σ.ho b):Goal_ B M P o a h m w r:=by
 unfold arrS at e
 split at e
 · rename_i T x ho
   have hx:=H.ev (x:=x) (by simp[ho,Op.operands])
   split at e
   · rename_i n el b hd hxe
     split at e
     · rename_i q ys ks hq hex
       split at e
       · rename_i hc
         injection e with e
         subst e
         simp only[Bool.and_eq_true,Nat.ble_eq,Nat.blt_eq]at hc
         obtain⟨c1,c2,c3⟩:=hc
         have c1:=Nat.eq_of_beq_eq_true c1
         rw[hxe]at hx
         have hlive:∀ b∈ks,(σ.ho b).own=true:=exp_live 6 _ _ _ hex
         have hsub:∀ g,Av M (upds h (kills ks)) m g→Av M h m g:=fun g e=>((Mo.kills (M:=M) (h:=h) (m:=m) (w:=w) ks).av g e).elim id fun h3=>absurd ((Ok.kills K ks).av_lt e) (by omega)
         have hy:=exp_rep (h0:=σ.ho) (A':=Av M (upds h (kills ks)) m) K hsub 6 _ _ _ hex (fun b hb=>⟨hr b hb,fun v g h1 h2=>kills_out K hb (by rw[hr b hb];exact hlive b hb) h1 h2⟩) _ hx
         generalize hu:a.eval x=u at hy
         cases hy with
         |ip _ b' o' _ us h3 h4 h5 h6=>
           obtain⟨d1,d2,d3⟩:=chunks_ok (n:=q) n ys c1
           have hget:∀ {i j:Nat} {cs:List V} {y:V},(chunks q n ys)[i]? =some cs→cs[j]? =some y→ys[i*q+j]? =some y:=fun hi hj=>by
            have:=flat_get d2 hi hj
            rwa [d3]at this
           have hrep:Rep w (Av M (upds h (kills ks)) m) m (.slice (some ⟨b',o',none⟩) n n) (.sl (chunks q n ys)):=by
            have h9:Rep w (Av M (upds h (kills ks)) m) m (.slice (some ⟨b',o',none⟩) (chunks q n ys).length n) (.sl (chunks q n ys)):=by
             refine .sl _ _ b' o' n q _ (fun i j=>us (i*q+j)) (by omega) (Nat.le_trans c3 (by decide)) (fun _=>⟨rfl,h3,h4⟩) d2 (fun i j cs y hi hj=> ?_) (fun i j cs y hi hj=>h6 _ _ (hget hi hj))
             have:=h5 _ _ (hget hi hj)
             rwa [show o'+i*q+j=o'+(i*q+j)by omega]
            rwa [d1]at h9
           have hb:(Instr.sliceBounds false n n none none none).run P w= .ok (0,n,n) w:=by simp[Instr.sliceBounds]
           refine Exec.val (u:= .slice (some ⟨b',o',none⟩) n n) (w':=w) ?_ ⟨m,Ok.kills K ks,hrep,Mo.kills ks,Bl.refl _ _,fun b hb=> .inl hb⟩
           simp[execOp,ho,Instr.sliceAt,Instr.sureAddr,hu,run_under hd,run_size hq,hb,Addr.add_lit]
       · cases e
     · cases e
   · cases e
 · cases e
theorem push_all:∀ (s:List UInt8) (acc:ByteArray),(s.map fun c=>(c.toNat:Int)).foldl (fun r n=>r.push (UInt8.ofNat n.toNat)) acc=⟨acc.data++s.toArray⟩
 |[],acc=>by simp
 |c::s,acc=>by
  rw[List.map_cons,List.foldl_cons,push_all s]
  simp[ByteArray.push]
theorem str_ok (K:Ok B M h m w) {l0:List (List V)} {s:List UInt8} (hs:l0=byL s) (e:strV P o σ l0 s sc=some r) (hk:∀ p∈r.ks,p.1=p.2) (H:Opd w (Av M h m) m o a σ):Goal_ B M P o a h m w r:=by
 unfold strV at e
 split at e
 · rename_i S D x ho
   have hx:=H.ev (x:=x) (by simp[ho,Op.operands])
   split at e
   · rename_i el l hS hD hxe
     split at e
     · rename_i hel
       injection e with e
       subst e
       have hkey:=hk _ (List.mem_singleton.2 rfl)
       simp only[List.cons.injEq,V.sl.injEq,and_true]at hkey
       subst hkey
       subst hs
       rw[hxe]at hx
       have hlen:(byL s).length=s.length:=List.length_map ..
       refine Exec.val (u:= .string ⟨s.toArray⟩) (w':=w) ?_ (.same K (.k _ _))
       generalize hu:a.eval x=u at hx
       cases hx with
       | sl _ ad b off c z _ us h1 h2 h3 h4 h5 h6 =>
         have main : (Conv.bytesToString (.slice ad (byL s).length c)).run P w = .ok (.string ⟨s.toArray⟩) w := by
          by_cases hp:0<(byL s).length
          · obtain⟨rfl,_,_⟩:=h3 hp
            have hz:z=1:=by
             have h7:=List.getElem_mem (l:=byL s) hp
             have h8:=h4 _ h7
             obtain⟨y,_,hy⟩:=List.mem_map.1 h7
             rw[←hy]at h8
             exact h8.symm
            subst hz
            have hcell:∀ (j:Nat) (v:Value),((s.map fun c=>(c.toNat:Int)).map (Value.int .u8))[j]? =some v→w.cell? (Addr.add ⟨b,off,none⟩ j)=some v:=by
             intro j v hv
             simp only[List.getElem?_map,Option.map_eq_some_iff]at hv
             obtain⟨q,⟨y,hy,rfl⟩,rfl⟩:=hv
             have e1:(byL s)[j]? =some [.k (.int .u8 (y.toNat:Int))]:=by unfold byL;rw[List.getElem?_map,hy];rfl
             have e2:=h5 j 0 _ _ e1 rfl
             have e3:=Rep.k_inv (h6 j 0 _ _ e1 rfl)
             rw[e3]at e2
             rw[Addr.add_lit]
             simpa using e2
            have hl:=run_loadCells_list (P:=P) (w:=w) ⟨b,off,none⟩ _ hcell
            rw[run_bytesToString w _ _ c (s.map fun c=>(c.toNat:Int)) (by rw[hlen];simpa using hl),push_all]
            simp
          · have h0:s=[]:=List.length_eq_zero_iff.1 (by omega)
            subst h0
            cases ad with
            |none=>simp[Conv.bytesToString,byL];rfl
            |some ad=>
              have hl:=run_loadCells_list (P:=P) (w:=w) ad [] (fun j v h=>by simp at h)
              rw[run_bytesToString w ad _ c [] (by simpa[byL]using hl)]
              rfl
         simp[execOp,ho,hu,run_convert_bytes_string w S D el ad _ c hS hel hD,main]
     · cases e
   · cases e
 · cases e
theorem trn_ok (K:Ok B M h m w) {l0 l':List (List V)} {k:Nat} (hl:l0.take k=l') (hk0:k≤l0.length) (e:trnV P o σ l0 l' k sc=some r) (hk:∀ p∈r.ks,p.1=p.2) (H:Opd w (Av M h m) m o a σ) (hr:∀ b∈r.rd,h b=σ.ho b)
  (hn:∀ b∈r.ws.map (·.1),σ.h.length≤b→h b= .dead∧m b=none):Goal_ B M P o a h m w r:=by
 unfold trnV at e
 split at e
 · rename_i T x hi ho
   have hx:=H.ev (x:=x) (by simp[ho,Op.operands])
   split at e
   · rename_i el b hd hxe
     split at e
     · rename_i U z l n hb hsz
       injection e with e
       subst e
       have hkey:=hk _ (List.mem_singleton.2 rfl)
       simp only[List.cons.injEq,V.sl.injEq,and_true]at hkey
       obtain⟨rfl,hhi⟩:=hkey
       have bhi:=bnd_ok (fun y hy=>H.ev (by simp[ho,Op.operands,hy])) hhi
       have hbb:=hr b (by simp)
       have hlive:(h b).own=true:=by rw[hbb,hb];rfl
       obtain⟨v1,xs,h1,h2,h3,h4,h5⟩:=K.rw b U z l (hbb.trans hb)
       obtain⟨hdd,hmm⟩:=hn σ.h.length (by simp) (Nat.le_refl _)
       have hib:σ.h.length≠b:=fun e=>by rw[←e,hmm]at h1;cases h1
       rw[hxe]at hx
       generalize hu:a.eval x=u at hx
       cases hx with
       | ow _ _ ad n' c' hm' =>
         rw[h1]at hm'
         injection hm' with hm'
         subst hm'
         obtain⟨hnl,hcap,had⟩:n'=l.length∧n'≤c'∧(ad=none∨∃ g,ad=some ⟨g,0,none⟩):=by
          rcases h3.2 with⟨e1,e2⟩|⟨g,cap,cur,e1,_,_,e2,_⟩
          · injection e1 with e1 e3 e4;exact⟨by omega,by omega,.inl e1⟩
          · injection e1 with e1 e3 e4;exact⟨by omega,by omega,.inr ⟨g,e1⟩⟩
         subst hnl
         have hbd:=bounds_run (P:=P) (w:=w) (i:=0) (j:=k) (Nat.zero_le _) hk0 hcap (lo:=none) (hi:=hi.map a.eval) (.inr ⟨rfl,rfl⟩) (bhi.imp id fun g=>⟨by rw[g.1];rfl,by have:=g.2;omega⟩)
         have hval:Value.slice (if c'=0 then ad else ad.map (·.add (0*n))) (k - 0) (c' - 0)= .slice ad k c':=by
          rcases had with rfl|⟨g,rfl⟩
          · simp
          · simp[Addr.add_lit]
         have m1:k*z≤l.length*z:=Nat.mul_le_mul_right _ hk0
         have hxl:xs.length=l.length*z:=h3.1
         have hlen:l'.length=k:=by rw[←hl,List.length_take];omega
         have hown:OwR w B U z (.slice ad k c') k (xs.take (k*z)):=by
          refine⟨by rw[List.length_take];omega, ?_⟩
          rcases h3.2 with⟨h6,h7⟩|⟨g',cap',cur,hv',q1,q2,q3,q4,q5,q6⟩
          · injection h6 with e1 e2 e3
            subst e1;subst e3
            exact .inl ⟨by rw[show k=0 by omega],by omega⟩
          · injection hv' with r1 r2 r3
            subst r1;subst r3
            exact .inr ⟨g',c',cur,rfl,q1,q2,by omega,q4,q5,by rw[←q6,List.take_take,Nat.min_eq_left m1]⟩
         obtain⟨t1,t2⟩:=K.app (w':=w) (u':= .slice ad k c') (x:= .rw U z l') hlive h1 (blk_own _ ⟨_,_,_,rfl⟩) hib hdd hmm (World.grownBy_refl w _) (fun g hg=> .inl (by cases ad<;>exact hg)) (fun _ _ e=>by cases e) (fun T z l2 e=>by
          injection e with e1 e2 e3
          subst e1;subst e2;subst e3
          refine⟨_,fun cs hcs=> ?_,by rw[hlen];exact hown,fun u hu=>h4 u (List.mem_of_mem_take hu),fun q y' hq=> ?_⟩
          · rw[←hl]at hcs;exact h2 cs (List.mem_of_mem_take hcs)
          · rw[←hl,(flat_take k h2).1,List.getElem?_take]at hq
            split at hq
            · rename_i h8
              rw[List.getD_eq_getElem?_getD,List.getElem?_take,if_pos h8,←List.getD_eq_getElem?_getD]
              exact h5 q y' hq
            · cases hq) rfl
         refine Exec.val (u:= .slice ad k c') (w':=w) ?_ ⟨_,t1,.ow _ _ _ _ _ upd_eq,t2,Bl.refl _ _,fun c hc=> ?_⟩
         · rw[←hval]
           simp[execOp,ho,Instr.sliceAt,Instr.slice,hu,run_under hd,run_size hsz,hbd]
         · by_cases e:c=σ.h.length
           · subst e;exact .inr (by simp)
           · rw[upd_ne e]at hc;exact .inl hc
     · cases e
   · cases e
 · cases e
theorem nilV_ok (K:Ok B M h m w) (e:nilV P o σ sc=some r) (hk:∀ p∈r.ks,p.1=p.2) (H:Opd w (Av M h m) m o a σ):Goal_ B M P o a h m w r:=by
 unfold nilV at e
 split at e
 · rename_i T x hi ho
   have hx:=H.ev (x:=x) (by simp[ho,Op.operands])
   split at e
   · rename_i el hd hxe
     split at e
     · rename_i n hsz
       injection e with e
       subst e
       have hkey:=hk _ (List.mem_singleton.2 rfl)
       simp only[List.cons.injEq,and_true]at hkey
       have bhi:=bnd_ok (n:=0) (i:=0) (fun y hy=>H.ev (by simp[ho,Op.operands,hy])) hkey
       have hbd:=bounds_run (P:=P) (w:=w) (len:=0) (cap:=0) (i:=0) (j:=0) (Nat.le_refl _) (Nat.le_refl _) (Nat.le_refl _) (lo:=none) (hi:=hi.map a.eval) (.inr ⟨rfl,rfl⟩) (bhi.imp id fun g=>⟨by rw[g.1];rfl,by omega⟩)
       rw[hxe]at hx
       generalize hu:a.eval x=u at hx
       cases hx with
       |nl _=>
         refine Exec.val (u:= .slice none 0 0) (w':=w) ?_ (.same K (.nl _))
         simp[execOp,ho,Instr.sliceAt,Instr.slice,hu,run_under hd,run_size hsz,hbd]
     · cases e
   · cases e
 · rename_i c ho
   split at e
   · rename_i hc
     split at e
     · rename_i x T rest hargs hts
       split at e
       · rename_i el hd hxe
         injection e with e
         subst e
         have hx:=H.ev (x:=x) (by rw[ho];simp[Op.operands,Call.operands,hc,hargs])
         rw[hxe]at hx
         have ha:c.args= #[x]:=by apply Array.ext';exact hargs
         have hta:c.argTypes[0]? =some T:=by rw[←Array.getElem?_toList,hts];rfl
         generalize hu:a.eval x=u at hx
         cases hx with
         |nl _=>
           refine Exec.val (u:= .int .i64 0) (w':=w) ?_ (.same K (.k _ _))
           simp[execOp,ho,hc,resolve,ha,invoke,builtin,Builtin.cap_,hta,hu,run_under hd,goInt]
       · cases e
     · cases e
   · cases e
 · cases e
theorem expN_rep {h0:Nat→HO} (K:Ok B M h m w) (hA:∀ g,A' g→Av M h m g) (kn:Bool) (n:Nat) (x y:V) (ks:List Nat) (e:expN kn h0 (n+1) x=some (y,ks)) (hk:∀ b∈ks,h b=h0 b∧∀ v g,m b=some v→blk v=some g→¬A' g) (u:Value) (hr:Rep w (Av M h m) m u x):Rep w A' no u y:=by
 unfold expN at e
 split at e
 · cases hr
   split at e
   · simp only[Option.some.injEq,Prod.mk.injEq]at e
     obtain⟨rfl,rfl⟩:=e
     exact .nl _
   · simp only[Option.some.injEq,Prod.mk.injEq]at e
     obtain⟨rfl,rfl⟩:=e
     exact exp_rep (h0:=h0) K hA 1 .nl (.sl []) [] rfl (fun b hb=>by cases hb) _ (.nl _)
 · exact exp_rep K hA (n+1) x y ks e hk u hr
theorem expN_live {h0:Nat→HO} (kn:Bool) (n:Nat) (x y:V) (ks:List Nat) (e:expN kn h0 n x=some (y,ks)):∀ b∈ks,(h0 b).own=true:=by
 unfold expN at e
 split at e
 · split at e
   · simp only[Option.some.injEq,Prod.mk.injEq]at e
     obtain⟨rfl,rfl⟩:=e
     exact fun b hb=>by cases hb
   · simp only[Option.some.injEq,Prod.mk.injEq]at e
     obtain⟨rfl,rfl⟩:=e
     exact fun b hb=>by cases hb
 · exact exp_live n x y ks e
theorem newV_ok (K : Ok B M h m w) {kn ro : Bool} {f0 : FuncId} {ds0 : List V} {T z : Nat} {l : List (List V)} (hp : Pure P f0 ds0 (.o T z l)) (hK : ∀ cs ∈ l, cs.all isK = true) (e : newV P o σ kn ro f0 ds0 T z l sc = some r) (hk : ∀ p ∈ r.ks, p.1 = p.2) (H : Opd w (Av M h m) m o a σ) (hr : ∀ b ∈ r.rd, h b = σ.ho b)
  (hn:∀ b∈r.ws.map (·.1),σ.h.length≤b→h b= .dead∧m b=none):Goal_ B M P o a h m w r:=by
 unfold newV at e
 split at e
 · rename_i c ho
   split at e
   · rename_i x hc
     have hcv:=H.ev (x:=x) (by rw[ho];simp[Op.operands,Call.operands,hc])
     have hops:∀ x∈c.args.toList,x∈o.op.operands.toList:=fun x hx=>by
      rw[ho]
      simp only[Op.operands,Call.operands,hc,Array.toList_append]
      exact List.mem_append.2 (.inr hx)
     obtain⟨v1,v2⟩:=argV_rep (w:=w) (A:=Av M h m) (m:=m) (P:=P) (σ:=σ) (a:=a) c.args.toList c.argTypes.toList fun x hx=>⟨H.ev (hops x hx),fun T=>H.evT (hops x hx)⟩
     split at e
     · rename_i f caps hcl
       rw[hcl]at hcv
       obtain⟨cs,hce,hcs,hcr⟩:∃ cs:Array Value,a.eval x= .func (.func f) #[] cs∧cs.size=caps.length∧∀ j x,caps[j]? =some x→Rep w (Av M h m) m (cs.getD j undef) x:=by
        generalize a.eval x=u at hcv
        cases hcv with
        |cl _ _ cs _ h1 h2=>exact⟨cs,rfl,h1,h2⟩
       split at e
       · rename_i ds ks hds
         have hlive:∀ b∈ks,(σ.ho b).own=true:=exps_live (C:=fun b=>(σ.ho b).own=true) (fun x y ks e=>expN_live kn 5 x y ks e) _ ds ks hds
         have hsub:∀ g,Av M (upds h (kills ks)) m g→Av M h m g:=fun g e=>((Mo.kills (M:=M) (h:=h) (m:=m) (w:=w) ks).av g e).elim id fun h3=>absurd ((Ok.kills K ks).av_lt e) (by omega)
         have main:(∀ b∈ks,h b=σ.ho b)→(V.cl f []::ds=V.cl f0 []::ds0)→∀ (ws:List (Nat×HO)) (d:V),
           (∀ u w',RD.ok (.o T z l) (fun g=>g<w.heap.size) (Av M (upds h (kills ks)) m) no w' u→Below w.heap.size w w'→Post B M h m w ws d u w')→Exec P o a w (Post B M h m w ws d):=by
          intro hrr hkey ws d hpost
          have hks:∀ b∈ks,h b=σ.ho b∧∀ v g,m b=some v→blk v=some g→¬Av M (upds h (kills ks)) m g:=fun b hb=>⟨hrr b hb,fun v g h1 h2=>kills_out K hb (by rw[hrr b hb];exact hlive b hb) h1 h2⟩
          simp only[List.cons.injEq,V.cl.injEq,and_true]at hkey
          obtain⟨rfl,rfl⟩:=hkey
          obtain⟨k1,k2⟩:=exps_rep (C:=fun b=>h b=σ.ho b∧∀ v g,m b=some v→blk v=some g→¬Av M (upds h (kills ks)) m g) (fun x y ks e hc u hr=>expN_rep K hsub kn 4 x y ks e hc u hr) _ ds ks hds hks
          have hargs:Reps w (Av M (upds h (kills ks)) m) no (c.args.map a.eval++cs) ds:=by
           refine⟨by rw[k1,List.length_append,v1];simp[hcs],fun j x hx=> ?_,K.gl.mo (m:=m) (m':=m) ⟨Nat.le_refl _,fun _ _ _=>rfl,fun g e=> .inl (hsub g e),fun _ _ e=>e⟩⟩
           refine k2 j x hx _ fun y hy=> ?_
           rcases Nat.lt_or_ge j (argV P σ c.args.toList c.argTypes.toList).length with hlt|hlt
           · rw[List.getElem?_append_left hlt]at hy
             rw[v1,Array.length_toList]at hlt
             have h1:c.args.toList[j]? =some c.args[j]:=by simp[hlt]
             have h2:=v2 j y hy _ h1
             rw[Array.getD_eq_getD_getElem?,Array.getElem?_append_left (by simpa using hlt),Array.getElem?_map,←Array.getElem?_toList,h1]
             exact h2
           · rw[List.getElem?_append_right hlt]at hy
             have h2:=hcr _ y hy
             rw[v1,Array.length_toList]at hlt h2
             rw[Array.getD_eq_getD_getElem?,Array.getElem?_append_right (by simpa using hlt)]
             simpa[Array.getD_eq_getD_getElem?]using h2
          have hcall:=hp.2 w (Av M (upds h (kills ks)) m) _ (fun g hg=>K.av_lt (hsub g hg)) hargs
          refine .inr (.inr ⟨f,c.args.map a.eval++cs, ?_,hcall.mono fun e w' he=> ?_⟩)
          · have:=hp.1 (c.args.map a.eval++cs) w
            simp[execOp,ho,resolve,hc,hce,Deferred.ofValue,invoke,this]
          · obtain⟨v,rfl,h1,h2⟩:=he
            exact⟨v,rfl,hpost v w' h1 h2⟩
         have hflat:∀ (j:Nat) (x:V),l.flatten[j]? =some x→isK x=true:=fun j x hx=>by
          obtain⟨cs,h1,h2⟩:=List.mem_flatten.1 (List.mem_of_getElem? hx)
          exact List.all_eq_true.1 (hK cs h1) x h2
         split at e
         · injection e with e
           subst e
           refine main hr (hk _ (List.mem_singleton.2 rfl)) _ _ fun u w' h1 h2=> ?_
           obtain⟨q1,xs,q2,q3,q4⟩:=h1
           refine⟨m,K.call h2, ?_,.call h2,Bl.of h2 K.bs,fun b hb=> .inl hb⟩
           have hxk:∀ (j:Nat) (x:V),l.flatten[j]? =some x→∃ v,x= .k v∧xs.getD j undef=v:=fun j x hx=>by
            have e1:=hflat j x hx
            have e2:=q4 j x hx
            cases x with
            |k v=>exact⟨v,rfl,Rep.k_inv e2⟩
            |_=>cases e1
           have hxl:xs.length=l.flatten.length:=by rw[q2.1,flat_len q1]
           rcases q2.2 with⟨rfl,e0⟩|⟨g,cap,cur,rfl,hB,hh,hnc,hcm,hcs',htk⟩
           · have h0:l=[]:=List.length_eq_zero_iff.1 e0
             subst h0
             exact .sl _ none 0 0 0 z [] (fun _ _=>undef) (Nat.le_refl _) (Nat.zero_le _) (fun h=>by simp at h) (fun _ h=>by simp at h) (fun i j cs x h=>by simp at h) (fun i j cs x h=>by simp at h)
           · refine .sl _ _ g 0 cap z l (fun i j=>xs.getD (i*z+j) undef) hnc hcm (fun _=>⟨rfl,fun hA=>hB (K.av_lt hA),⟨cur,T,(0,0),hh⟩⟩) q1 (fun i j cs x hi hj=> ?_) (fun i j cs x hi hj=> ?_)
             · have e1:=flat_get q1 hi hj
               have e2:=(List.getElem?_eq_some_iff.1 e1).1
               have e3:xs[i*z+j]? =some (xs.getD (i*z+j) undef):=by rw[List.getD_eq_getElem?_getD,List.getElem?_eq_getElem (by omega)];rfl
               have:=row_cell q2 rfl e3
               rwa [show 0+i*z+j=i*z+j by omega]
             · obtain⟨v,rfl,e2⟩:=hxk _ x (flat_get q1 hi hj)
               show Rep _ _ _ (xs.getD (i*z+j) undef) _
               rw[e2]
               exact .k _ _
         · injection e with e
           subst e
           refine main hr (hk _ (List.mem_singleton.2 rfl)) _ _ fun u w' h1 h2=> ?_
           obtain⟨q1,xs,q2,q3,q4⟩:=h1
           have hnew:=hn σ.h.length (by simp) (Nat.le_refl _)
           have hu:∀ g,E.blk u=some g→w.heap.size≤g:=fun g hg=>by
            rcases q2.2 with⟨rfl,_⟩|⟨g',cap,cur,rfl,hB,_⟩
            · cases hg
            · simp only[E.blk,Option.some.injEq]at hg;subst hg;exact Nat.le_of_not_lt hB
           have hown:OwR w' B T z u l.length xs:=⟨q2.1,by
            rcases q2.2 with h5|⟨g',cap,cur,h5,hB,r⟩
            · exact .inl h5
            · exact .inr ⟨g',cap,cur,h5,fun e=>hB (K.bs _ e),r⟩⟩
           refine⟨upd m σ.h.length (some u),K.newAt hnew.1 hnew.2 hu h2 q1 hown q3 (fun j x hx=>isK_rep (hflat j x hx) (q4 j x hx)), ?_,.new hnew.1 hnew.2 hu h2,Bl.of h2 K.bs,fun b hb=> ?_⟩
           · rcases q2.2 with⟨rfl,_⟩|⟨g',cap,cur,rfl,_⟩
             · exact .ow _ _ _ _ _ upd_eq
             · exact .ow _ _ _ _ _ upd_eq
           · by_cases e:b=σ.h.length
             · subst e;exact .inr (by simp)
             · rw[upd_ne e]at hb;exact .inl hb
       · cases e
     · cases e
   · cases e
 · cases e
theorem idxV_ok (K:Ok B M h m w) (e:idxV P o σ sc=some r) (H:Opd w (Av M h m) m o a σ):Goal_ B M P o a h m w r:=by
 unfold idxV at e
 split at e
 · rename_i T x i ho
   have hx:=H.ev (x:=x) (by simp[ho,Op.operands])
   have hi:=H.ev (x:=i) (by simp[ho,Op.operands])
   split at e
   · rename_i n el l k z hd hxe hie
     split at e
     · rename_i q hq hz
       split at e
       · rename_i v hv
         injection e with e
         subst e
         simp only[Bool.and_eq_true,decide_eq_true_eq]at hz
         rw[hxe]at hx
         rw[hie]at hi
         have hi:=Rep.k_inv hi
         generalize hu:a.eval x=u at hx
         cases hx with
         |ag _ cs _ s1 r1=>
           obtain⟨u,h1,h2⟩:=part_ok s1 r1 hq hv
           refine Exec.val (u:=u) (w':=w) ?_ (.same K h2)
           simp[execOp,ho,Instr.index,hu,hi,asIntOf,run_under hd,run_size hq,hz.1,hz.2,h1]
       · cases e
     · cases e
   · cases e
 · cases e
theorem zero_get {zc:Array Value} {n j:Nat} (h:j<n*zc.size) (hp:0<zc.size):(Builtin.zeroCells zc n).getD j undef=zc.getD (j % zc.size) undef:=by
 have hm:j % zc.size<zc.size:=Nat.mod_lt _ hp
 unfold Builtin.zeroCells
 rw[Array.getD_eq_getD_getElem?,Array.getElem?_map,Array.getElem?_range,if_pos h]
 simp only[Option.map_some,Option.getD_some]
 rw[Array.getD_eq_getD_getElem?,Array.getElem?_eq_getElem hm]
 rw[getElem!_pos zc (j % zc.size) hm]
 rfl
theorem apzV_ok (K : Ok B M h m w) {n : Nat} (hle : 0 < n ∧ n ≤ 100000) (e : apzV P o σ n sc = some r) (hk : ∀ p ∈ r.ks, p.1 = p.2) (H : Opd w (Av M h m) m o a σ) (hn : ∀ b ∈ r.ws.map (·.1), σ.h.length ≤ b → h b = .dead ∧ m b = none) : Goal_ B M P o a h m w r := by
 unfold apzV at e
 split at e
 · rename_i c ho
   split at e
   · rename_i hcc
     split at e
     · rename_i x y T tn hargs hts
       have hx:=H.evT (P:=P) (T:=T) (x:=x) (by rw[ho];simp[Op.operands,Call.operands,hcc,hargs])
       have hy:=H.ev (x:=y) (by rw[ho];simp[Op.operands,Call.operands,hcc,hargs])
       have ha:c.args= #[x,y]:=by apply Array.ext';exact hargs
       have hta:c.argTypes= #[T,tn]:=by apply Array.ext';exact hts
       split at e
       · rename_i el kn k ia hd hdn hxe hye
         split at e
         · rename_i z bytes zz zl hap hz
           split at e
           · rename_i ys hys
             split at e
             · rename_i hc
               injection e with e
               subst e
               simp only[Bool.and_eq_true,Nat.ble_eq]at hc
               have hkey:=hk _ (List.mem_singleton.2 rfl)
               simp only[List.cons.injEq,V.k.injEq,Value.int.injEq,true_and,and_true]at hkey
               subst hkey
               rw[hxe]at hx
               rw[hye]at hy
               have hy:=Rep.k_inv hy
               generalize hxu:a.eval x=u at hx
               cases hx with
               |nl _=>
               obtain⟨i,z',i1,i2,i3,i4,i5,i6⟩:=apT_of hap
               obtain⟨i0,j1,j2⟩:=zero_info hz
               rw[i1]at j1
               injection j1 with j1
               subst j1
               rw[i2]at j2
               injection j2 with j2
               subst j2
               obtain⟨z1,z2,z3⟩:=zero_ok (w:=w) (A:=Av M h m) (m:=m) hz
               obtain⟨y1,y2⟩:=exps_nil K hys
               have hzl:ys.length=i.size:=by rw[y1,←z2,i3]
               subst i5;subst i6
               have k2:n*i.bytes≤100000*100:=Nat.mul_le_mul hle.2 hc.1
               have hr:=Lib.run_append_nil_zeros (P:=P) w T tn o.type el i z' k kn hd hdn i1 i2 n hle.1 i4 (by omega) (by omega)
               have hcg:=grownCap_ge w n 0 el
               have hcl:=grownCap_le_maxLen w n 0 el (by unfold maxLen;omega)
               generalize grownCap w n 0 el=C at hr hcg hcl
               obtain⟨hdd,hmm⟩:=hn σ.h.length (by simp) (Nat.le_refl _)
               have hall:∀ cs∈List.replicate n ys,cs.length=i.size:=fun cs h=>by rw[List.eq_of_mem_replicate h];exact hzl
               have hrep:∀ j x,(List.replicate n ys).flatten[j]? =some x→Rep w (Av M h m) no ((Builtin.zeroCells z'.cells n).toList.getD j undef) x:=by
                intro j x hx
                have hj:=(List.getElem?_eq_some_iff.1 hx).1
                rw[flat_len hall,List.length_replicate]at hj
                obtain⟨cs,h1,h2⟩:=flat_inv i4 hall hx
                have h3:cs=ys:=List.eq_of_mem_replicate (List.mem_of_getElem? h1)
                subst h3
                rw[getD_toList,zero_get (by rw[i3];exact hj) (by rw[i3];exact i4),i3]
                exact y2 _ x h2 _ fun q hq=>z3 _ q hq
               let cells:Array Value:=Builtin.zeroCells z'.cells n++Builtin.zeroCells z'.cells (C - n)
               have hsz:cells.size=C*i.size:=by
                simp only[cells,Array.size_append,size_zeroCells,i3]
                rw[←Nat.add_mul]
                congr 1
                omega
               have hbel:Below w.heap.size w (w.drew.alloc (.cells cells el)):=(Below.refl _ _).drew.alloc (Nat.le_refl _) _
               have hu:∀ g,E.blk (.slice (some ⟨w.heap.size,0,none⟩) n C)=some g→w.heap.size≤g:=fun g e=>by simp only[E.blk,Option.some.injEq]at e;omega
               have hlen:(Builtin.zeroCells z'.cells n).toList.length=n*i.size:=by rw[Array.length_toList,size_zeroCells,i3]
               have htake:cells.toList.take (n*i.size)=(Builtin.zeroCells z'.cells n).toList:=by
                simp only[cells,Array.toList_append]
                rw[List.take_append_of_le_length (by omega),List.take_of_length_le (by omega)]
               have hown:OwR (w.drew.alloc (.cells cells el)) B el i.size (.slice (some ⟨w.heap.size,0,none⟩) n C) n (Builtin.zeroCells z'.cells n).toList:=
                ⟨hlen,.inr ⟨w.heap.size,C,cells,rfl,fun e=>Nat.lt_irrefl _ (K.bs _ e),by show(w.heap.push _)[w.heap.size]? =_;simp,hcg,hcl,hsz,htake⟩⟩
               have hone:∀ u∈(Builtin.zeroCells z'.cells n).toList,u.oneCell'=true:=by
                intro u hu
                obtain⟨j,hj⟩:=List.getElem?_of_mem hu
                have hjl:=(List.getElem?_eq_some_iff.1 hj).1
                have hfl:j<(List.replicate n ys).flatten.length:=by rw[flat_len hall,List.length_replicate];omega
                have h1:=hrep j _ (List.getElem?_eq_getElem hfl)
                rw[List.getD_eq_getElem?_getD,hj]at h1
                refine one_cell h1 ?_
                obtain⟨cs,h2,h3⟩:=flat_inv i4 hall (List.getElem?_eq_getElem hfl)
                have h4:cs=ys:=List.eq_of_mem_replicate (List.mem_of_getElem? h2)
                subst h4
                exact List.all_eq_true.1 hc.2 _ (List.mem_of_getElem? h3)
               refine Exec.val (u:= .slice (some ⟨w.heap.size,0,none⟩) n C) (by simp[execOp,ho,hcc,resolve,ha,hta,invoke,builtin,hxu,hy,hr,cells]) ⟨upd m σ.h.length (some (.slice (some ⟨w.heap.size,0,none⟩) n C)),K.new hdd hmm hu hbel (fun U l' e=>by cases e) (fun U z' l' e=> ?_) (fun l' e=>by cases e),.ow _ _ _ _ _ upd_eq,.new hdd hmm hu hbel,Bl.of hbel K.bs,fun c hc=> ?_⟩
               · injection e with e1 e2 e3
                 subst e1;subst e2;subst e3
                 exact⟨_,hall,by rw[List.length_replicate];exact hown,hone,hrep⟩
               · by_cases e:c=σ.h.length
                 · subst e;exact .inr (by simp)
                 · rw[upd_ne e]at hc;exact .inl hc
             · cases e
           · cases e
         · cases e
       · cases e
     · cases e
   · cases e
 · cases e
theorem ext_ok (K:Ok B M h m w) {mk:List Operand→Op} {ins:List V} {rd ws:List (Nat×HO)} {d:V} (hE:Ext P mk ins rd ws d) (e:extV o σ mk ins rd ws d sc=some r) (hk:∀ p∈r.ks,p.1=p.2) (H:Opd w (Av M h m) m o a σ) (hr:∀ b∈r.rd,h b=σ.ho b) (hn:∀ b∈r.ws.map (·.1),σ.h.length≤b→h b= .dead∧m b=none):Goal_ B M P o a h m w r:=by
 unfold extV at e
 split at e
 · rename_i hc
   injection e with e
   subst e
   rw[Bool.and_eq_true]at hc
   obtain⟨c1,c2⟩:=hc
   have hkey:=hk _ (List.mem_singleton.2 rfl)
   simp only at hkey
   obtain⟨k1,k2⟩:=List.append_inj' hkey (by simp)
   injection k1 with k0 k1
   injection k0 with k0
   refine hE B M h m w a o o.op.operands.toList k0 K (by rw[←k1];simp) (fun j x v hx hv=> ?_) (fun p hp=> ?_) (fun b hb hnr=> ?_)
   · rw[←k1,List.getElem?_map,hx]at hv
     simp only[Option.map_some,Option.some.injEq]at hv
     subst hv
     exact H.ev (List.mem_of_getElem? hx)
   · have h1:=List.all_eq_true.1 c1 p hp
     rw[Bool.and_eq_true]at h1
     have h2:hoV (σ.ho p.1)=hoV p.2:=List.map_inj_left.1 k2 p hp
     exact(hr p.1 (List.mem_map.2 ⟨p,hp,rfl⟩)).trans (hoV_eq h1.1 h2)
   · obtain⟨p,hp,rfl⟩:=List.mem_map.1 hb
     have h1:=List.all_eq_true.1 c2 p hp
     rw[Bool.or_eq_true]at h1
     rcases h1 with h1|h1
     · obtain⟨q,hq,h3⟩:=List.any_eq_true.1 h1
       exact absurd (List.mem_map.2 ⟨q,hq,Nat.eq_of_beq_eq_true h3⟩) hnr
     · exact hn p.1 hb (Nat.le_of_ble_eq_true h1)
 · cases e
theorem aopX_ok (K:Ok B M h m w) (e:aopX P o σ sc=some r) (hk:∀ p∈r.ks,p.1=p.2) (H:Opd w (Av M h m) m o a σ) (hr:∀ b∈r.rd,h b=σ.ho b) (hw:∀ b∈r.ws.map (·.1),b<σ.h.length→h b=σ.ho b)
  (hn:∀ b∈r.ws.map (·.1),σ.h.length≤b→h b= .dead∧m b=none):Exec P o a w (Post B M h m w r.ws r.v):=by
 unfold aopX at e
 split at e
 · rename_i r' he
   injection e with e
   subst e
   unfold ruleX at he
   split at he
   · rename_i q sc';exact eqa_ok K q he hk H
   · exact arrS_ok K he H hr
   · rename_i q sc';exact str_ok K q he hk H
   · rename_i q1 q2 sc';exact trn_ok K q1 q2 he hk H hr hn
   · exact nilV_ok K he hk H
   · rename_i q sc';exact apzV_ok K q he hk H hn
   · rename_i q1 q2 sc';exact newV_ok K q1 q2 he hk H hr hn
   · rename_i q sc'
     split at he
     · exact ext_ok K q he hk H hr hn
     · cases he
   · cases he
 · split at e
   · rename_i r' he
     injection e with e
     subst e
     exact idxV_ok K he H
   · exact aop_ok K e hk H hr hw hn
end
end Go.Proofs.YtfdfbenejkmnlaaGreatDoor.E
