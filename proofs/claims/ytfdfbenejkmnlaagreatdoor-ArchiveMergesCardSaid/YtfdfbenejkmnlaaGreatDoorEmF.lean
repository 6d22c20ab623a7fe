/-
 THE SECOND ENGINE, 9: make, copy; all operations.
-/
import Derived.Test.YtfdfbenejkmnlaaGreatDoorEmF4
namespace Go.Proofs.YtfdfbenejkmnlaaGreatDoor.E
open Go.RowKit
set_option linter.unusedVariables false
set_option linter.unusedSimpArgs false
section
variable {B:Nat→Prop} {M:Nat→Prop} {h:Nat→HO} {m m':Nat→Option Value} {w w':World} {A A':Nat→Prop} {P:Program} {σ:St} {a:Act} {o:Oper} {sc:List (Fa P)} {r:R P}
theorem flat_inv {z:Nat} (hz:0<z) {l:List (List V)} (hl:∀ cs∈l,cs.length=z) {j:Nat} {x:V} (h:l.flatten[j]? =some x):∃ cs,l[j / z]? =some cs∧cs[j % z]? =some x:=by
 have hj:=(List.getElem?_eq_some_iff.1 h).1
 rw[flat_len hl]at hj
 have h1:j / z<l.length:=by rw[Nat.div_lt_iff_lt_mul hz];exact hj
 have h2:j % z<z:=Nat.mod_lt _ hz
 have h3:l[j / z]? =some l[j / z]:=List.getElem?_eq_getElem h1
 have hc:=hl _ (List.getElem_mem h1)
 have h4:l[j / z][j % z]? =some (l[j / z][j % z]'(by omega)):=List.getElem?_eq_getElem _
 have h5:=flat_get hl h3 h4
 rw[show j / z*z+j % z=j by rw[Nat.mul_comm];exact Nat.div_add_mod j z,h]at h5
 exact⟨_,h3,by rw[h4,h5]⟩
theorem zero_info {T:TypeId} {z:Value} {l:List V} (e:zeroV P T=some (z,l)):∃ i,P.info? T=some i∧i.zero=some z:=by
 unfold zeroV at e
 split at e
 · rename_i i hi
   split at e
   · rename_i v hv
     simp only[Option.some.injEq,Prod.mk.injEq]at e
     exact⟨i,hi,by rw[hv,e.1]⟩
   · cases e
 · cases e
theorem make_ok (K:Ok B M h m w) {T:TypeId} {x y:Operand} (ho:o.op= .makeSlice T x y) (e:aop P o σ sc=some r) (hk:∀ p∈r.ks,p.1=p.2) (H:Opd w (Av M h m) m o a σ) (hn:∀ b∈r.ws.map (·.1),σ.h.length≤b→h b= .dead∧m b=none):Goal_ B M P o a h m w r:=by
 simp only[aop,ho]at e
 have hx:=H.ev (x:=x) (by simp[ho,Op.operands])
 have hy:=H.ev (x:=y) (by simp[ho,Op.operands])
 split at e
 · rename_i el k1 ia k2 ib n hle sc' hd hxe hye
   split at e
   · rename_i z bytes zz zl hap hz
     split at e
     · rename_i ys hys
       split at e
       · rename_i hc
         injection e with e
         subst e
         simp only[Bool.and_eq_true,Nat.ble_eq]at hc
         have hkey:=hk _ (List.mem_singleton.2 rfl)
         simp only[List.cons.injEq,V.k.injEq,Value.int.injEq,true_and,and_true]at hkey
         obtain⟨rfl,rfl⟩:=hkey
         rw[hxe]at hx
         rw[hye]at hy
         have hx:=Rep.k_inv hx
         have hy:=Rep.k_inv hy
         obtain⟨i,z',i1,i2,i3,i4,i5,i6⟩:=apT_of hap
         obtain⟨i0,j1,j2⟩:=zero_info hz
         rw[i1]at j1
         injection j1 with j1
         subst j1
         rw[i2]at j2
         injection j2 with j2
         subst j2
         obtain⟨z1,z2,z3⟩:=zero_ok (w:=w) (A:=Av M h m) (m:=m) hz
         obtain⟨y1,y2⟩:=exps_nil K hys
         have hzl:ys.length=i.size:=by rw[y1,←z2,i3]
         subst i5;subst i6
         have k5:i.bytes*n≤100*2000000000000:=Nat.mul_le_mul hc.1 hle
         have k4:(i.bytes:Int)*(n:Int)≤281474976710656:=by
          have h9:((i.bytes*n:Nat):Int)≤281474976710656:=by omega
          rwa [Int.natCast_mul]at h9
         have hr:=run_make (P:=P) w T el i z' hd i1 i2 k1 k2 n n (by omega) (Int.le_refl _) k4 (by omega)
         simp only[Int.toNat_natCast]at hr
         obtain⟨hdd,hmm⟩:=hn σ.h.length (by simp) (Nat.le_refl _)
         have hrep:∀ j x,(List.replicate n ys).flatten[j]? =some x→Rep w (Av M h m) no ((madeCells z'.cells (n*i.size)).toList.getD j undef) x:=by
          intro j x hx
          have hall:∀ cs∈List.replicate n ys,cs.length=i.size:=fun cs h=>by rw[List.eq_of_mem_replicate h];exact hzl
          have hj:=(List.getElem?_eq_some_iff.1 hx).1
          rw[flat_len hall,List.length_replicate]at hj
          obtain⟨cs,h1,h2⟩:=flat_inv i4 hall hx
          have h3:cs=ys:=List.eq_of_mem_replicate (List.mem_of_getElem? h1)
          subst h3
          have hm:j % i.size<i.size:=Nat.mod_lt _ i4
          rw[getD_toList]
          have h4:(madeCells z'.cells (n*i.size)).getD j undef=z'.cells.getD (j % i.size) undef:=by
           unfold madeCells
           rw[Array.getD_eq_getD_getElem?,Array.getElem?_map,Array.getElem?_range,if_pos hj]
           simp only[Option.map_some,Option.getD_some]
           rw[i3,Array.getD_eq_getD_getElem?,Array.getElem?_eq_getElem (by omega)]
           rw[getElem!_pos z'.cells (j % i.size) (by omega)]
           rfl
          rw[h4]
          exact y2 _ x h2 _ fun q hq=>z3 _ q hq
         have hbel:Below w.heap.size w (w.alloc (.cells (madeCells z'.cells (n*i.size)) el)):=(Below.refl _ _).alloc (Nat.le_refl _) _
         have hu:∀ g,E.blk (.slice (some ⟨w.heap.size,0,none⟩) n n)=some g→w.heap.size≤g:=fun g e=>by simp only[E.blk,Option.some.injEq]at e;omega
         have hlen:(madeCells z'.cells (n*i.size)).toList.length=n*i.size:=by rw[Array.length_toList,size_madeCells]
         have hown:OwR (w.alloc (.cells (madeCells z'.cells (n*i.size)) el)) B el i.size (.slice (some ⟨w.heap.size,0,none⟩) n n) n (madeCells z'.cells (n*i.size)).toList:=
          ⟨hlen,.inr ⟨w.heap.size,n,madeCells z'.cells (n*i.size),rfl,fun e=>Nat.lt_irrefl _ (K.bs _ e),by show(w.heap.push _)[w.heap.size]? =_;simp,Nat.le_refl _,Nat.le_trans hle (by decide),size_madeCells _ _,by rw[List.take_of_length_le];rw[hlen];exact Nat.le_refl _⟩⟩
         have hall:∀ cs∈List.replicate n ys,cs.length=i.size:=fun cs h=>by rw[List.eq_of_mem_replicate h];exact hzl
         have hone:∀ u∈(madeCells z'.cells (n*i.size)).toList,u.oneCell'=true:=by
          intro u hu
          obtain⟨j,hj⟩:=List.getElem?_of_mem hu
          have hjl:=(List.getElem?_eq_some_iff.1 hj).1
          have hfl:j<(List.replicate n ys).flatten.length:=by rw[flat_len hall,List.length_replicate];omega
          have h1:=hrep j _ (List.getElem?_eq_getElem hfl)
          rw[List.getD_eq_getElem?_getD,hj]at h1
          refine one_cell h1 ?_
          obtain⟨cs,h2,h3⟩:=flat_inv i4 hall (List.getElem?_eq_getElem hfl)
          have h4:cs=ys:=List.eq_of_mem_replicate (List.mem_of_getElem? h2)
          subst h4
          exact List.all_eq_true.1 hc.2 _ (List.mem_of_getElem? h3)
         refine Exec.val (u:= .slice (some ⟨w.heap.size,0,none⟩) n n) (by simp only[execOp,ho,hx,hy];simp[hr]) ⟨upd m σ.h.length (some (.slice (some ⟨w.heap.size,0,none⟩) n n)),K.new hdd hmm hu hbel (fun U l' e=>by cases e) (fun U z' l' e=> ?_) (fun l' e=>by cases e),.ow _ _ _ _ _ upd_eq,.new hdd hmm hu hbel,Bl.of hbel K.bs,fun c hc=> ?_⟩
         · injection e with e1 e2 e3
           subst e1;subst e2;subst e3
           exact⟨_,hall,by rw[List.length_replicate];exact hown,hone,hrep⟩
         · by_cases e:c=σ.h.length
           · subst e;exact .inr (by simp)
           · rw[upd_ne e]at hc;exact .inl hc
       · cases e
     · cases e
   · cases e
 · cases e
theorem copy_ok (K : Ok B M h m w) {c : Call} (ho : o.op = .call c) (hc : c.callee = .builtin .copy) (e : aop P o σ sc = some r) (hk : ∀ p ∈ r.ks, p.1 = p.2) (H : Opd w (Av M h m) m o a σ) (hr : ∀ b ∈ r.rd, h b = σ.ho b) : Goal_ B M P o a h m w r := by
 simp only[aop,ho,hc]at e
 split at e
 · rename_i x y t t' hargs hts
   have hx:=H.ev (x:=x) (by rw[ho];simp[Op.operands,Call.operands,hc,hargs])
   have hy:=H.ev (x:=y) (by rw[ho];simp[Op.operands,Call.operands,hc,hargs])
   have ha:c.args= #[x,y]:=by apply Array.ext';exact hargs
   have hta:c.argTypes= #[t,t']:=by apply Array.ext';exact hts
   split at e
   · rename_i el hd
     split at e
     · rename_i b l2 l0 k2 hll hz sc' hs1 hxe hye
       split at e
       · rename_i U l hb
         injection e with e
         subst e
         have hkey:=hk _ (List.mem_singleton.2 rfl)
         simp only[List.cons.injEq,V.sl.injEq,and_true]at hkey
         obtain⟨rfl,rfl⟩:=hkey
         have hb':=(hr b (by simp)).trans hb
         obtain⟨v1,xs,h1,h2,h3,h4,h5⟩:=K.rw b U 1 l hb'
         have hsz:(P.info? el).map (·.size)=some 1:=by unfold szT at hs1;exact hs1
         have hexec:∀ {u:Value} {w':World},(Builtin.copy_ #[t,t'] o.type #[a.eval x,a.eval y]).run P w= .ok u w'→(execOp a.eval o).run P w= .ok (.value u) w':=by
          intro u w' hrun
          simp[execOp,ho,resolve,hc,ha,hta,invoke,builtin,hrun]
         rw[hxe]at hx
         rw[hye]at hy
         generalize hu:a.eval x=u at hx hexec
         generalize hv:a.eval y=v at hy hexec
         cases hx with
         | ow _ _ ad n' c' hm' =>
          rw[h1]at hm'
          injection hm' with hm'
          subst hm'
          cases hy with
          | sl _ ad2 b2 o2 c2 z2 _ us g1 g2 g3 g4 g5 g6 =>
           have hlive:(h b).own=true:=by rw[hb'];rfl
           by_cases hp:0<l.length
           · obtain⟨g,cap,hg,hcap,hmax,hBg,cur,hh,hcs,htk⟩:∃ g cap,(Value.slice ad n' c'= .slice (some ⟨g,0,none⟩) l.length cap)∧l.length≤cap∧cap≤maxLen∧¬B g∧∃ cur:Array Value,w.heap[g]? =some (.cells cur U (0,0))∧cur.size=cap*1∧cur.toList.take (l.length*1)=xs:=by
              rcases h3.2 with⟨_,h7⟩|⟨g',cap,cur,hv,hB,hh,hn,hc,hsz,htk⟩
              · omega
              · exact⟨g',cap,hv,hn,hc,hB,cur,hh,hsz,htk⟩
             injection hg with e1 e2 e3
             subst e1;subst e2;subst e3
             obtain⟨rfl,hA,hB2⟩:=g3 (by omega)
             have hz2:z2=1:=by
              have h7:=g4 l2[0] (List.getElem_mem (by omega))
              rw[(hz l2[0] (List.getElem_mem (by omega))).1]at h7
              exact h7.symm
             subst hz2
             have hcell:∀ j,j<l2.length→∃ cs y,l2[j]? =some cs∧cs[0]? =some y∧w.cell? ⟨b2,o2+j*1+0,none⟩=some (us j 0)∧Rep w (Av M h m) no (us j 0) y∧one y=true:=by
              intro j hj
              have h7:=hz l2[j] (List.getElem_mem hj)
              have h8:l2[j]? =some l2[j]:=List.getElem?_eq_getElem hj
              have h9:l2[j][0]? =some (l2[j][0]'(by omega)):=List.getElem?_eq_getElem _
              exact⟨_,_,h8,h9,g5 j 0 _ _ h8 h9,g6 j 0 _ _ h8 h9,List.all_eq_true.1 h7.2 _ (List.getElem_mem _)⟩
             let news:List Value:=(List.range l2.length).map fun j=>us j 0
             have hnl:news.length=l2.length:=by simp[news]
             have hnews:∀ (j:Nat) (u:Value),news[j]? =some u→j<l2.length∧u=us j 0:=fun j u hj=>by
              have h7:=(List.getElem?_eq_some_iff.1 hj).1
              rw[hnl]at h7
              simp only[news,List.getElem?_map,List.getElem?_range h7,Option.map_some,Option.some.injEq]at hj
              exact⟨h7,hj.symm⟩
             have hone:∀ u∈news,u.oneCell'=true:=fun u hu'=>by
              obtain⟨j,hj⟩:=List.getElem?_of_mem hu'
              obtain⟨h7,rfl⟩:=hnews j u hj
              obtain⟨cs,y,_,_,_,h8,h9⟩:=hcell j h7
              exact one_cell h8 h9
             have hrun:=run_copy_row (P:=P) w t t' o.type el g 0 l.length c' ⟨b2,o2,none⟩ l2.length c2 cur U news hd hsz hh (by rw[hnl,←hll];exact(Nat.min_self _).symm) (fun j v hj=>by
              obtain⟨h7,rfl⟩:=hnews j v hj
              obtain⟨cs,y,_,_,h8,_,_⟩:=hcell j h7
              rw[Addr.add_lit]
              simpa using h8) (by rw[Nat.zero_add,hnl,hcs];omega) hone
             simp only[List.take_zero,List.nil_append,Nat.zero_add]at hrun
             let row:List Value:=news++cur.toList.drop news.length
             have hw:=setRow_heap w g cur row.toArray U (0,0) hh
             have hoth:Oth g w (w.setRow g row.toArray):=⟨rfl,rfl,rfl,by simp[World.setRow],fun k hk=>setRow_other w g k _ hk⟩
             have hrl:row.length=c':=by simp only[row,List.length_append,List.length_drop,hnl,Array.length_toList,hcs];omega
             obtain⟨t1,t2⟩:=K.turn (w':=w.setRow g row.toArray) (x:= .rw U 1 l2) (g:=g) hlive h1 rfl hoth (fun _ _ e=>by cases e) (fun T z l' e=>by
              injection e with e1 e2 e3
              subst e1;subst e2;subst e3
              refine⟨news,fun cs hcs=>(hz cs hcs).1,⟨by rw[hnl,Nat.mul_one],.inr ⟨g,c',row.toArray,by rw[←hll],hBg,hw,by omega,hmax,by simp[hrl],by simp[row,hnl]⟩⟩,hone,fun j x hx=> ?_⟩
              obtain⟨cs,h7,h8⟩:=flat_inv (by omega) (fun cs hcs=>(hz cs hcs).1) hx
              rw[Nat.div_one]at h7
              rw[Nat.mod_one]at h8
              have hj:=(List.getElem?_eq_some_iff.1 h7).1
              have h9:news[j]? =some (us j 0):=by simp[news,hj]
              rw[List.getD_eq_getElem?_getD,h9]
              exact g6 j 0 cs x h7 h8) rfl
             refine Exec.val (hexec hrun) ⟨m,t1, ?_,t2,hoth.below hBg,fun c hc=> .inl hc⟩
             rw[hnl]
             exact .k _ _
           · have hl0:l=[]:=List.eq_nil_of_length_eq_zero (by omega)
             have hl20:l2=[]:=List.eq_nil_of_length_eq_zero (by rw[←hll];omega)
             subst hl0;subst hl20
             have hrun:=run_copy_none (P:=P) w t t' o.type el ad ad2 n' c' ([]:List (List V)).length c2 hd hsz (by simp)
             refine Exec.val (hexec hrun) ⟨m, ?_,.k _ _, ?_,Bl.refl _ _,fun c hc=> .inl hc⟩
             · have:upds h [(b,.rw U 1 [])]=h:=by
                funext c
                by_cases hc:c=b
                · subst hc;rw[hb'];exact upd_eq
                · exact upd_ne hc
               rw[this];exact K
             · have:upds h [(b,.rw U 1 [])]=h:=by
                funext c
                by_cases hc:c=b
                · subst hc;rw[hb'];exact upd_eq
                · exact upd_ne hc
               rw[this];exact Mo.refl
       · cases e
     · cases e
   · cases e
 · cases e
/-- **The operations**. -/
theorem aop_ok (K:Ok B M h m w) (e:aop P o σ sc=some r) (hk:∀ p∈r.ks,p.1=p.2) (H:Opd w (Av M h m) m o a σ) (hr:∀ b∈r.rd,h b=σ.ho b) (hw:∀ b∈r.ws.map (·.1),b<σ.h.length→h b=σ.ho b)
  (hn:∀ b∈r.ws.map (·.1),σ.h.length≤b→h b= .dead∧m b=none):Exec P o a w (Post B M h m w r.ws r.v):=by
 cases ho:o.op with
 |move x=>exact move_ok K (.inl ho) (by simpa only[aop,ho]using e) H
 |assign x=>exact move_ok K (.inr ho) (by simpa only[aop,ho]using e) H
 |pick c x y=>exact pick_ok K ho e H
 |alloc T=>exact alloc_ok K ho e hn
 |box T x=>exact box_ok K ho e H hn
 |load T x=>exact load_ok' K ho e hk H hr
 |store T p x=>exact store_ok K ho e hk H hw
 |fieldAddr T x f=>exact fieldAddr_ok K ho e H
 |field T x f=>exact field_ok K ho e H
 |build T ps=>exact build_ok K ho e H
 |makeFunc fn first cs=>
   simp only[aop,ho]at e
   unfold mkF at e
   split at e
   · rename_i f hf
     injection e with e
     subst e
     have hfirst:first= #[]:=by apply Array.ext';simpa using hf
     refine Exec.val (u:= .func (.func f) #[] (cs.map a.eval)) (w':=w) (by simp[execOp,ho,Instr.makeFunc,hfirst]) (.same K (.cl _ _ _ _ (by simp) fun j x hx=> ?_))
     simp only[List.getElem?_map,Option.map_eq_some_iff]at hx
     obtain⟨y,hy,rfl⟩:=hx
     rw[Array.getD_eq_getD_getElem?,Array.getElem?_map,←Array.getElem?_toList,hy]
     exact H.ev (by rw[ho];simp only[Op.operands,Array.toList_append];exact List.mem_append.2 (.inr (List.mem_of_getElem? hy)))
   · cases e
 |buildSlice T len ps=>exact buildSlice_ok K ho e H hn
 |binOp op T x y U=>
   refine purely_ok K (xs:=[x,y]) (by simpa only[aop,ho]using e) (fun z hz=>H.ev (by rw[ho];simpa[Op.operands]using hz)) fun ρ ρ' hq=> ?_
   simp only[execOp,ho,hq x (by simp),hq y (by simp)]
 |unOp op T x=>
   refine purely_ok K (xs:=[x]) (by simpa only[aop,ho]using e) (fun z hz=>H.ev (by rw[ho];simpa[Op.operands]using hz)) fun ρ ρ' hq=> ?_
   simp only[execOp,ho,hq x (by simp)]
 |convert T U x=>
   refine purely_ok K (xs:=[x]) (by simpa only[aop,ho]using e) (fun z hz=>H.ev (by rw[ho];simpa[Op.operands]using hz)) fun ρ ρ' hq=> ?_
   simp only[execOp,ho,hq x (by simp)]
 |indexAddr T x i=>exact indexAddr_ok K ho e hk H hr
 |extract x i=>exact extract_ok K ho e H
 |slice T x lo hi mx=>exact slice_ok K ho e hk H hr
 |call c=>
   cases hc:c.callee with
   |value f=>exact call_ok K ho hc e hk H (fun f' caps cs f0 hs0 ds0 D ρ hp sc' q1 q2 q3 q4=>lend_ok K ho hc hk H hr hn hp q1 q2 q3 q4) hr hn
   |builtin b=>
     cases b with
     |len=>exact len_ok K ho hc e H hr
     |append=>exact append_ok K ho hc e hk H hr hw hn
     |copy=>exact copy_ok K ho hc e hk H hr
     |max=>
       refine purely_ok K (xs:=c.args.toList) (by simpa only[aop,ho,hc]using e) (fun z hz=>H.ev (by rw[ho];simp only[Op.operands,Call.operands,hc,Array.toList_append];exact List.mem_append.2 (.inr hz))) fun ρ ρ' hq=> ?_
       have:c.args.map ρ=c.args.map ρ':=Array.map_congr_left fun x hx=>hq x (by simpa using hx)
       simp only[execOp,ho,hc,resolve,this]
     |min=>
       refine purely_ok K (xs:=c.args.toList) (by simpa only[aop,ho,hc]using e) (fun z hz=>H.ev (by rw[ho];simp only[Op.operands,Call.operands,hc,Array.toList_append];exact List.mem_append.2 (.inr hz))) fun ρ ρ' hq=> ?_
       have:c.args.map ρ=c.args.map ρ':=Array.map_congr_left fun x hx=>hq x (by simpa using hx)
       simp only[execOp,ho,hc,resolve,this]
     |_=>simp[aop,ho,hc]at e
   |invoke x n=>simp[aop,ho,hc]at e
 |makeSlice T x y=>exact make_ok K ho e hk H hn
 |_=>simp[aop,ho]at e
end
end Go.Proofs.YtfdfbenejkmnlaaGreatDoor.E
