/-
 THE SECOND ENGINE, 6: every operation that the engine knows does what its word says.
-/
import Derived.Test.YtfdfbenejkmnlaaGreatDoorEmE
namespace Go.Proofs.YtfdfbenejkmnlaaGreatDoor.E
open Go.RowKit
set_option linter.unusedVariables false
set_option linter.unusedSimpArgs false
section
variable {B:Nat→Prop} {M:Nat→Prop} {h:Nat→HO} {m m':Nat→Option Value} {w w':World} {A A':Nat→Prop} {P:Program} {σ:St} {a:Act} {o:Oper} {sc:List (Fa P)} {r:R P}
theorem Post.same (K:Ok B M h m w) {u:Value} {v:V} (hr:Rep w (Av M h m) m u v):Post B M h m w [] v u w:=⟨m,K,hr,Mo.refl,Bl.refl _ _,fun b hb=> .inl hb⟩
/-- What says nothing of names may be said among any. -/
theorem Mo.up:Mo w A E.no w A m:=⟨Nat.le_refl _,fun _ _ _=>rfl,fun _ e=> .inl e,fun _ _ e=>by simp[E.no]at e⟩
theorem looks_of {o:Oper} {t:Nat} (h:Operand.tmp t∈o.op.operands.toList):t∈looks o:=List.mem_filterMap.2 ⟨_,h,rfl⟩
/-- What is asked of the operands of an operation. -/
def Opd (w:World) (A:Nat→Prop) (m:Nat→Option Value) (o:Oper) (a:Act) (σ:St):Prop:=(∀ t∈looks o,Rep w A m (a.eval (.tmp t)) (σ.t.getD t .un))∧Glo w A
theorem Opd.ev (H:Opd w A m o a σ) {x:Operand} (hx:x∈o.op.operands.toList):Rep w A m (a.eval x) (σ.ev x):=ev_rep H.2 fun t e=>H.1 t (looks_of (by subst e;exact hx))
theorem Opd.evT (H:Opd w A m o a σ) {x:Operand} {T:TypeId} (hx:x∈o.op.operands.toList):Rep w A m (a.eval x) (σ.evT P T x):=evT_rep H.2 fun t e=>H.1 t (looks_of (by subst e;exact hx))
abbrev Goal_ (B:Nat→Prop) (M:Nat→Prop) (P:Program) (o:Oper) (a:Act) (h:Nat→HO) (m:Nat→Option Value) (w:World) (r:R P):Prop:=Exec P o a w (Post B M h m w r.ws r.v)
theorem Exec.val {u:Value} {Q:Value→World→Prop} (e:(execOp a.eval o).run P w= .ok (.value u) w') (q:Q u w'):Exec P o a w Q:= .inl ⟨u,w',e,q⟩
theorem move_ok (K:Ok B M h m w) {x:Operand} (ho:o.op= .move x∨o.op= .assign x) (e:some (⟨σ.evT P o.type x,[],[],sc,[]⟩:R P)=some r) (H:Opd w (Av M h m) m o a σ):Goal_ B M P o a h m w r:=by
 injection e with e
 subst e
 have hx:x∈o.op.operands.toList:=by rcases ho with ho|ho<;>simp[ho,Op.operands]
 refine Exec.val (u:=a.eval x) (w':=w) ?_ (.same K (H.evT hx))
 rcases ho with ho|ho<;>simp[execOp,ho]
theorem pick_ok (K:Ok B M h m w) {c x y:Operand} (ho:o.op= .pick c x y) (e:aop P o σ sc=some r) (H:Opd w (Av M h m) m o a σ):Goal_ B M P o a h m w r:=by
 simp only[aop,ho]at e
 have hc:=H.ev (x:=c) (by simp[ho,Op.operands])
 split at e
 · rename_i t ht
   injection e with e
   subst e
   rw[ht]at hc
   have hc:=Rep.k_inv hc
   refine Exec.val (u:=if t=true then a.eval x else a.eval y) (w':=w) (by simp[execOp,ho,hc,asBool]) (.same K ?_)
   cases t
   · exact H.evT (by simp[ho,Op.operands])
   · exact H.evT (by simp[ho,Op.operands])
 · cases e
theorem new_bx (K:Ok B M h m w) {b T:Nat} {cs:Array Value} {l:List V} (hd:h b= .dead) (hm:m b=none) (hs:cs.size=l.length) (hr:∀ j x,l[j]? =some x→Rep w (Av M h m) m (cs.getD j undef) x):
  Post B M h m w [(b,.bx T l)] (.lp b 0) (.pointer (some ⟨w.heap.size,0,none⟩)) (w.alloc (.cells cs T)):=by
 have hb:Below w.heap.size w (w.alloc (.cells cs T)):=(Below.refl _ _).alloc (Nat.le_refl _) _
 have hu:∀ g,E.blk (.pointer (some ⟨w.heap.size,0,none⟩))=some g→w.heap.size≤g:=fun g e=>by simp only[E.blk,Option.some.injEq]at e;omega
 refine⟨upd m b (some (.pointer (some ⟨w.heap.size,0,none⟩))),K.new hd hm hu hb (fun U l' e=> ?_) (fun U z' l' e=>by cases e) (fun l' e=>by cases e),.lp _ b 0 _ upd_eq,.new hd hm hu hb,Bl.of hb K.bs,fun c hc=> ?_⟩
 · injection e with e1 e2
   subst e1;subst e2
   exact⟨_,cs,rfl,by show(w.heap.push _)[w.heap.size]? =_;simp,hs,hr⟩
 · by_cases e:c=b
   · subst e;exact .inr (by simp)
   · rw[upd_ne e]at hc;exact .inl hc
theorem alloc_ok (K:Ok B M h m w) {T:TypeId} (ho:o.op= .alloc T) (e:aop P o σ sc=some r) (hn:∀ b∈r.ws.map (·.1),σ.h.length≤b→h b= .dead∧m b=none):Goal_ B M P o a h m w r:=by
 simp only[aop,ho]at e
 split at e
 · rename_i z l hz
   injection e with e
   subst e
   obtain⟨h1,h2,h3⟩:=zero_ok (w:=w) (A:=Av M h m) (m:=m) hz
   obtain⟨hd,hm⟩:=hn σ.h.length (by simp) (Nat.le_refl _)
   refine Exec.val ?_ (new_bx K hd hm h2 h3)
   simp[execOp,ho,Instr.alloc,h1,newVar,newRow]
 · cases e
theorem box_ok (K:Ok B M h m w) {T:TypeId} {x:Operand} (ho:o.op= .box T x) (e:aop P o σ sc=some r) (H:Opd w (Av M h m) m o a σ) (hn:∀ b∈r.ws.map (·.1),σ.h.length≤b→h b= .dead∧m b=none):Goal_ B M P o a h m w r:=by
 simp only[aop,ho]at e
 split at e
 · rename_i hc
   injection e with e
   subst e
   obtain⟨h2,h3,_⟩:=ce_rep (H.evT (P:=P) (T:=T) (x:=x) (by simp[ho,Op.operands])) hc
   obtain⟨hd,hm⟩:=hn σ.h.length (by simp) (Nat.le_refl _)
   refine Exec.val ?_ (new_bx K hd hm h2 h3)
   simp[execOp,ho,Instr.box,newVar,newRow]
 · cases e
/-- An element of a row of the call's own. -/
theorem row_cell {e z n:Nat} {v:Value} {xs:List Value} (h:OwR w B e z v n xs) {g k c:Nat} (hv:v= .slice (some ⟨g,0,none⟩) k c) {j:Nat} {u:Value} (hu:xs[j]? =some u):w.cell? ⟨g,j,none⟩=some u:=by
 subst hv
 have:=h.kit.cells (g:=g) rfl j u hu
 rwa [Addr.add_lit,Nat.zero_add]at this
theorem load_ok' (K : Ok B M h m w) {T : TypeId} {x : Operand} (ho : o.op = .load T x) (e : aop P o σ sc = some r) (hk : ∀ p ∈ r.ks, p.1 = p.2) (H : Opd w (Av M h m) m o a σ) (hh : ∀ b ∈ r.rd, h b = σ.ho b) : Goal_ B M P o a h m w r := by
 simp only[aop,ho]at e
 split at e
 · rename_i n hn
   have hx:=H.ev (x:=x) (by simp[ho,Op.operands])
   have key:∀ (l:List V) (v:V) (rd:List Nat) (sc:List (Fa P)) (ks:Ks) b off,pack P T l=some v→a.eval x= .pointer (some ⟨b,off,none⟩)→(∀ j y,l[j]? =some y→∃ u,w.cell? ⟨b,off+j,none⟩=some u∧Rep w (Av M h m) m u y)→Goal_ B M P o a h m w ⟨v,[],rd,sc,ks⟩:=by
    intro l v rd sc ks b off hv ev hc
    obtain⟨u,h1,h2⟩:=load_ok (P:=P) hv hc
    refine Exec.val (u:=u) (w':=w) ?_ (.same K h2)
    simp[execOp,ho,Instr.loadAt,ev,Instr.sureAddr,h1]
   split at e
   · rename_i b z i off hxe
     rw[hxe]at hx
     generalize hu:a.eval x=u at hx
     split at e
     · rename_i U z' l l0 i0 cs hf sc' hb
       split at e
       · rename_i v hcs hv
         injection e with e
         subst e
         have hkey:=hk _ (List.mem_singleton.2 rfl)
         simp only[List.cons.injEq,V.sl.injEq,V.k.injEq,Value.int.injEq,true_and,and_true]at hkey
         obtain⟨rfl,hi⟩:=hkey
         have hi:i=i0:=by omega
         subst hi
         have hcs:=Nat.eq_of_beq_eq_true hcs
         subst hcs
         obtain⟨v',xs,h1,h2,h3,h4,h5⟩:=K.rw b U z' l ((hh b (by simp)).trans hb)
         cases hx with
         | rp _ _ _ _ _ g k c hg =>
           rw[h1]at hg
           injection hg with hg
           refine key _ _ _ _ _ _ _ hv hu fun j y hy=> ?_
           rw[List.getElem?_take]at hy
           split at hy
           · rw[List.getElem?_drop]at hy
             have h6:=flat_get h2 hf hy
             have h7:=h5 _ y h6
             have h8:i*z'+(off+j)<xs.length:=by
              have:=(List.getElem?_eq_some_iff.1 h6).1
              rw[flat_len h2]at this
              rw[h3.1];exact this
             refine⟨xs.getD (i*z'+(off+j)) undef, ?_,h7.mo Mo.up⟩
             rw[Nat.add_assoc]
             refine row_cell h3 hg ?_
             rw[List.getD_eq_getElem?_getD,List.getElem?_eq_getElem h8]
             rfl
           · cases hy
       · cases e
     · cases e
   · split at e
     · rename_i l rd hl
       split at e
       · rename_i v hv
         injection e with e
         subst e
         unfold cellsAt at hl
         split at hl
         · rename_i b off hxe
           split at hl
           · rename_i U l' hb
             simp only[Option.some.injEq,Prod.mk.injEq]at hl
             obtain⟨rfl,rfl⟩:=hl
             rw[hxe]at hx
             generalize hu:a.eval x=u at hx
             cases hx with
             |lp _ _ _ g hg=>
               obtain⟨g',cs,h1,h2,h3,h4,h5⟩:=K.bx b U l' ((hh b (by simp)).trans hb)
               rw[h1]at hg
               injection hg with hg
               injection hg with hg
               injection hg with hg
               injection hg with hg
               subst hg
               refine key _ _ _ _ _ _ _ hv hu fun j y hy=> ?_
               rw[List.getElem?_take]at hy
               split at hy
               · rw[List.getElem?_drop]at hy
                 have hlt:=(List.getElem?_eq_some_iff.1 hy).1
                 have h6:=h5 (off+j) y hy
                 refine⟨_, ?_,h6⟩
                 have:off+j<cs.size:=by omega
                 simp[World.cell?,h3,Array.getD_eq_getD_getElem?,Array.getElem?_eq_getElem this]
               · cases hy
           · cases hl
         · rename_i l' hxe
           simp only[Option.some.injEq,Prod.mk.injEq]at hl
           obtain⟨rfl,rfl⟩:=hl
           rw[hxe]at hx
           generalize hu:a.eval x=u at hx
           cases hx with
           |ip _ b off _ us h3 h4 h5 h6=>
             refine key _ _ _ _ _ _ _ hv hu fun j y hy=> ?_
             rw[List.getElem?_take]at hy
             split at hy
             · exact⟨us j,h5 j y hy,(h6 j y hy).mo Mo.up⟩
             · cases hy
         · cases hl
       · cases e
     · cases e
 · cases e
theorem fOff_run {T f n:Nat} {F:TypeId} (e:fOff P T f=some (n,F)):∃ fs fd k,P.underlying T=some (.struct fs)∧fs[f]? =some fd∧fd.type=F∧fd.offset=n∧szT P F=some (k+1):=by
 unfold fOff at e
 split at e
 · rename_i fs hd
   split at e
   · rename_i fd hf
     split at e
     · rename_i k hk
       simp only[Option.some.injEq,Prod.mk.injEq]at e
       obtain⟨rfl,rfl⟩:=e
       exact⟨fs,fd,k,hd,hf,rfl,rfl,hk⟩
     · cases e
   · cases e
 · cases e
theorem fieldAddr_ok (K:Ok B M h m w) {T:TypeId} {x:Operand} {f:Nat} (ho:o.op= .fieldAddr T x f) (e:aop P o σ sc=some r) (H:Opd w (Av M h m) m o a σ):Goal_ B M P o a h m w r:=by
 simp only[aop,ho]at e
 split at e
 · rename_i n F hf
   obtain⟨fs,fd,k,f1,f2,f3,f4,f5⟩:=fOff_run hf
   have hx:=H.ev (x:=x) (by simp[ho,Op.operands])
   have hrun:∀ g off,a.eval x= .pointer (some ⟨g,off,none⟩)→(execOp a.eval o).run P w= .ok (.value (.pointer (some ⟨g,off+n,none⟩))) w:=by
    intro g off hu
    subst f3;subst f4
    simp[execOp,ho,Instr.fieldAt,run_under f1,f2,hu,Instr.sureAddr,fieldPlace,run_size f5,Addr.add_lit]
   split at e
   · rename_i b off hxe
     injection e with e
     subst e
     rw[hxe]at hx
     generalize hu:a.eval x=u at hx
     cases hx with
     |lp _ _ _ g hg=>exact Exec.val (hrun _ _ hu) (.same K (.lp _ _ _ _ hg))
   · rename_i l hxe
     injection e with e
     subst e
     rw[hxe]at hx
     generalize hu:a.eval x=u at hx
     cases hx with
     |ip _ b off _ us h3 h4 h5 h6=>
       refine Exec.val (hrun _ _ hu) (.same K (.ip _ _ _ _ (fun j=>us (n+j)) h3 h4 (fun j y hy=> ?_) fun j y hy=> ?_))
       · rw[List.getElem?_drop]at hy
         rw[Nat.add_assoc]
         exact h5 _ y hy
       · rw[List.getElem?_drop]at hy
         exact h6 _ y hy
   · rename_i b z i off hxe
     injection e with e
     subst e
     rw[hxe]at hx
     generalize hu:a.eval x=u at hx
     cases hx with
     |rp _ _ _ _ _ g n' c hg=>
       have:=hrun _ _ hu
       rw[Nat.add_assoc]at this
       exact Exec.val this (.same K (.rp _ _ _ _ _ _ _ _ hg))
   · cases e
 · cases e
/-- A part of known cells. -/
theorem part_ok {F : TypeId} {cs : Array Value} {l : List V} {n k : Nat} {v : V} (hs : cs.size = l.length) (hr : ∀ j x, l[j]? = some x → Rep w A m (cs.getD j undef) x) (hk : szT P F = some k) (hp : pack P F ((l.drop n).take k) = some v) :
  ∃ u,(part F cs n).run P w= .ok u w∧Rep w A m u v:=by
 unfold pack at hp
 rw[hk]at hp
 simp only at hp
 split at hp
 · rename_i hlen
   have hlen:=Nat.eq_of_beq_eq_true hlen
   rw[List.length_take,List.length_drop]at hlen
   have hagg : ∀ d, P.underlying F = some d → ((∃ f, d = .struct f) ∨ ∃ k e, d = .array k e) → ∃ u, (part F cs n).run P w = .ok u w ∧ Rep w A m u (.ag ((l.drop n).take k)) := by
    intro d hd hda
    refine⟨.agg (cs.extract n (n+k)), ?_,.ag _ _ _ ?_ fun j x hx=> ?_⟩
    · rcases hda with⟨f,rfl⟩|⟨k',e,rfl⟩<;>simp[part,isAgg,run_under hd,run_size hk]
    · rw[Array.size_extract,List.length_take,List.length_drop,hs]
      omega
    · rw[List.getElem?_take]at hx
      split at hx
      · rename_i hj
        rw[List.getElem?_drop]at hx
        have hlt:=(List.getElem?_eq_some_iff.1 hx).1
        have:=hr _ x hx
        rw[Array.getD_eq_getD_getElem?]at this⊢
        rw[Array.getElem?_extract,if_pos (by omega)]
        exact this
      · cases hx
   split at hp
   · rename_i f hd
     injection hp with hp
     subst hp
     exact hagg _ hd (.inl ⟨f,rfl⟩)
   · rename_i k' e hd
     injection hp with hp
     subst hp
     exact hagg _ hd (.inr ⟨k',e,rfl⟩)
   · rename_i d hn1 hn2 hd
     split at hp
     · rename_i x hx
       injection hp with hp
       subst hp
       have h0:((l.drop n).take k)[0]? =some x:=by rw[hx];rfl
       rw[List.getElem?_take]at h0
       split at h0
       · rw[List.getElem?_drop,Nat.add_zero]at h0
         have hlt:=(List.getElem?_eq_some_iff.1 h0).1
         have h1:cs[n]? =some cs[n]:=Array.getElem?_eq_getElem (by omega)
         have h2:=hr n x h0
         rw[Array.getD_eq_getD_getElem?,h1]at h2
         refine⟨cs[n], ?_,h2⟩
         have hagg:(isAgg F).run P w= .ok false w:=by
          simp only[isAgg,Sem.run_bind,run_under hd,Result.andThen_ok]
          rfl
         simp only[part,Sem.run_bind,hagg,Result.andThen_ok,Bool.false_eq_true,if_false,h1]
         rfl
       · cases h0
     · cases hp
   · cases hp
 · cases hp
theorem field_ok (K:Ok B M h m w) {T:TypeId} {x:Operand} {f:Nat} (ho:o.op= .field T x f) (e:aop P o σ sc=some r) (H:Opd w (Av M h m) m o a σ):Goal_ B M P o a h m w r:=by
 simp only[aop,ho]at e
 split at e
 · rename_i n F hf
   obtain⟨fs,fd,k,f1,f2,f3,f4,f5⟩:=fOff_run hf
   have hx:=H.ev (x:=x) (by simp[ho,Op.operands])
   split at e
   · rename_i l k' hxe hk
     split at e
     · rename_i v hv
       injection e with e
       subst e
       rw[hxe]at hx
       generalize hu:a.eval x=u at hx
       cases hx with
       |ag _ cs _ h1 h2=>
         obtain⟨u,h3,h4⟩:=part_ok (P:=P) h1 h2 hk hv
         refine Exec.val (u:=u) (w':=w) ?_ (.same K h4)
         subst f3;subst f4
         simp[execOp,ho,Instr.field,run_under f1,f2,hu,asAgg,h3]
     · cases e
   · cases e
 · cases e
theorem build_ok (K:Ok B M h m w) {T:TypeId} {ps:Array (Nat×Operand)} (ho:o.op= .build T ps) (e:aop P o σ sc=some r) (H:Opd w (Av M h m) m o a σ):Goal_ B M P o a h m w r:=by
 simp only[aop,ho]at e
 split at e
 · rename_i z zl pl hz hpl
   split at e
   · rename_i l hl
     injection e with e
     subst e
     obtain⟨h1,h2,h3⟩:=zero_ok (w:=w) (A:=Av M h m) (m:=m) hz
     obtain⟨cs',g1,g2,g3⟩:=fill_ok (w:=w) (A:=Av M h m) (m:=m) (ps.toList.map fun x=>(x.1,σ.ev x.2)) (ps.toList.map fun x=>(x.1,a.eval x.2)) zl z.cells l hl h2 h3 (by simp) (fun i p u hp hu=>by
      simp only[List.getElem?_map,Option.map_eq_some_iff]at hp hu
      obtain⟨q,hq,rfl⟩:=hp
      obtain⟨q',hq',rfl⟩:=hu
      rw[hq]at hq'
      injection hq' with hq'
      subst hq'
      exact⟨rfl,H.ev (by rw[ho];simp only[Op.operands,List.mem_map];exact⟨q,List.mem_of_getElem? hq,rfl⟩)⟩)
     refine Exec.val (u:= .agg cs') (w':=w) ?_ (.same K (.ag _ cs' l g2 g3))
     unfold places at hpl
     split at hpl
     · rename_i fs hd
       split at hpl
       · rename_i q hq
         injection hpl with hpl
         subst hpl
         have hq':=pureRun_run hq w
         simp only[bind_pure_comp]at hq'
         simp[execOp,ho,Instr.build,h1,run_under hd,hq',Array.toList_map,g1]
       · cases hpl
     · rename_i k e' hd
       split at hpl
       · rename_i n hn
         injection hpl with hpl
         subst hpl
         simp[execOp,ho,Instr.build,h1,run_under hd,run_size hn,Array.toList_map,g1]
       · cases hpl
     · cases hpl
   · cases e
 · cases e
theorem kv_ok {x:Operand} (hx:Rep w A m (a.eval x) (σ.ev x)) (hk:isK (σ.ev x)=true):a.eval x=kv (σ.ev x):=by
 generalize σ.ev x=v at hx hk
 cases v<;>simp[isK]at hk
 exact Rep.k_inv hx
theorem purely_ok (K:Ok B M h m w) {xs:List Operand} (e:purely P o σ xs sc=some r) (H:∀ x∈xs,Rep w (Av M h m) m (a.eval x) (σ.ev x)) (hq:∀ ρ ρ':Operand→Value,(∀ x∈xs,ρ x=ρ' x)→execOp ρ o=execOp ρ' o):Goal_ B M P o a h m w r:=by
 unfold purely at e
 split at e
 · rename_i hk
   rw[List.all_eq_true]at hk
   split at e
   · rename_i z hz
     injection e with e
     subst e
     refine Exec.val (u:=z) (w':=w) ?_ (.same K (cV_rep z))
     rw[hq a.eval (fun x=>kv (σ.ev x)) fun x hx=>kv_ok (H x hx) (hk x hx)]
     exact pureRun_run hz w
   · cases e
 · cases e
theorem extract_ok (K:Ok B M h m w) {x:Operand} {i:Nat} (ho:o.op= .extract x i) (e:aop P o σ sc=some r) (H:Opd w (Av M h m) m o a σ):Goal_ B M P o a h m w r:=by
 simp only[aop,ho]at e
 have hx:=H.ev (x:=x) (by simp[ho,Op.operands])
 split at e
 · rename_i l hxe
   split at e
   · rename_i v hv
     injection e with e
     subst e
     rw[hxe]at hx
     generalize hu:a.eval x=u at hx
     cases hx with
     |tu _ cs _ h1 h2=>
       have hlt:=(List.getElem?_eq_some_iff.1 hv).1
       have h3:cs[i]? =some cs[i]:=Array.getElem?_eq_getElem (by omega)
       have h4:=h2 i v hv
       rw[Array.getD_eq_getD_getElem?,h3]at h4
       refine Exec.val (u:=cs[i]) (w':=w) ?_ (.same K h4)
       simp[execOp,ho,Instr.extract,hu,h3]
   · cases e
 · cases e
theorem arr_ok (K:Ok B M h m w) {T e n:Nat} {k:IntKind} {z:Int} {x i:Operand} (ho:o.op= .indexAddr T x i) (hd:P.underlying T=some (.array n e)) (hi:a.eval i= .int k z) (er:arrV e n z (σ.ev x) sc=some r) (H:Opd w (Av M h m) m o a σ):Goal_ B M P o a h m w r:=by
 unfold arrV at er
 split at er
 · rename_i q hq hz
   simp only[Bool.and_eq_true,decide_eq_true_eq]at hz
   have hx:=H.ev (x:=x) (by simp[ho,Op.operands])
   have hrun:∀ g off,a.eval x= .pointer (some ⟨g,off,none⟩)→(execOp a.eval o).run P w= .ok (.value (.pointer (some ⟨g,off+z.toNat*q,none⟩))) w:=by
    intro g off hu
    simp[execOp,ho,Instr.indexAt,run_under hd,hu,hi,asIntOf,Instr.sureAddr,hz.1,hz.2,run_size hq,Addr.add_lit]
   split at er
   · rename_i b off hxe
     injection er with er
     subst er
     rw[hxe]at hx
     generalize hu:a.eval x=u at hx
     cases hx with
     |lp _ _ _ g hg=>exact Exec.val (hrun _ _ hu) (.same K (.lp _ _ _ _ hg))
   · rename_i l hxe
     injection er with er
     subst er
     rw[hxe]at hx
     generalize hu:a.eval x=u at hx
     cases hx with
     |ip _ b off _ us h3 h4 h5 h6=>
       refine Exec.val (hrun _ _ hu) (.same K (.ip _ _ _ _ (fun j=>us (z.toNat*q+j)) h3 h4 (fun j y hy=> ?_) fun j y hy=> ?_))
       · rw[List.getElem?_drop]at hy
         rw[Nat.add_assoc]
         exact h5 _ y hy
       · rw[List.getElem?_drop]at hy
         exact h6 _ y hy
   · rename_i b k' i' off hxe
     injection er with er
     subst er
     rw[hxe]at hx
     generalize hu:a.eval x=u at hx
     cases hx with
     |rp _ _ _ _ _ g n' c hg=>
       have:=hrun _ _ hu
       rw[Nat.add_assoc]at this
       exact Exec.val this (.same K (.rp _ _ _ _ _ _ _ _ hg))
   · cases er
 · cases er
theorem indexAddr_ok (K:Ok B M h m w) {T:TypeId} {x i:Operand} (ho:o.op= .indexAddr T x i) (e:aop P o σ sc=some r) (hk:∀ p∈r.ks,p.1=p.2) (H:Opd w (Av M h m) m o a σ) (hr:∀ b∈r.rd,h b=σ.ho b):Goal_ B M P o a h m w r:=by
 simp only[aop,ho]at e
 have hx:=H.ev (x:=x) (by simp[ho,Op.operands])
 have hi:=H.ev (x:=i) (by simp[ho,Op.operands])
 split at e
 · rename_i el l k z l0 i0 cs hf sc' hd hxe hie
   split at e
   · rename_i n hn
     split at e
     · rename_i hcs
       have hcs:=Nat.eq_of_beq_eq_true hcs
       injection e with e
       subst e
       have hkey:=hk _ (List.mem_singleton.2 rfl)
       simp only[List.cons.injEq,V.sl.injEq,V.k.injEq,Value.int.injEq,true_and,and_true]at hkey
       obtain⟨rfl,rfl⟩:=hkey
       rw[hxe]at hx
       rw[hie]at hi
       have hi:=Rep.k_inv hi
       generalize hu:a.eval x=u at hx
       cases hx with
       |sl _ ad b off c zz _ us h1 h2 h3 h4 h5 h6=>
         have hlt:=(List.getElem?_eq_some_iff.1 hf).1
         obtain⟨rfl,hA,hB⟩:=h3 (by omega)
         have hz:=h4 cs (List.mem_of_getElem? hf)
         rw[hcs]at hz
         subst hz
         refine Exec.val (u:= .pointer (some ⟨b,off+i0*n,none⟩)) (w':=w) ?_ (.same K (.ip _ b (off+i0*n) cs (us i0) hA hB (fun j y hy=>h5 i0 j cs y hf hy) fun j y hy=>h6 i0 j cs y hf hy))
         simp[execOp,ho,Instr.indexAt,hu,hi,asIntOf,run_under hd,run_size hn,hlt,Addr.add_lit]
     · cases e
   · cases e
 · rename_i el b k z l0 i0 cs hf sc' hd hxe hie
   split at e
   · rename_i U z' l n hb hn
     split at e
     · rename_i hcs
       have hcs:=Nat.eq_of_beq_eq_true hcs
       subst hcs
       injection e with e
       subst e
       have hkey:=hk _ (List.mem_singleton.2 rfl)
       simp only[List.cons.injEq,V.sl.injEq,V.k.injEq,Value.int.injEq,true_and,and_true]at hkey
       obtain⟨rfl,rfl⟩:=hkey
       rw[hxe]at hx
       rw[hie]at hi
       have hi:=Rep.k_inv hi
       have hlt:=(List.getElem?_eq_some_iff.1 hf).1
       obtain⟨v',xs,h1,h2,h3,h4,h5⟩:=K.rw b U z' l ((hr b (by simp)).trans hb)
       generalize hu:a.eval x=u at hx
       cases hx with
       |ow _ _ ad n' c' hm'=>
         rw[h1]at hm'
         injection hm' with hm'
         subst hm'
         obtain⟨g,cap,hv,_⟩:=own_pos h3.kit (by omega)
         injection hv with e1 e2 e3
         subst e1;subst e2;subst e3
         refine Exec.val (u:= .pointer (some ⟨g,i0*z'+0,none⟩)) (w':=w) ?_ (.same K (.rp _ b z' i0 0 g _ _ h1))
         simp[execOp,ho,Instr.indexAt,hu,hi,asIntOf,run_under hd,run_size hn,hlt,Addr.add_lit]
     · cases e
   · cases e
 · rename_i n el k z hd hie
   rw[hie]at hi
   exact arr_ok K ho hd (Rep.k_inv hi) e H
 · cases e
theorem bnd_ok {n:Nat} {x:Option Operand} {i:Int} (hx:∀ y,x=some y→Rep w A m (a.eval y) (σ.ev y)) (h:σ.bnd n x= .k (.int .i64 i)):(x.map a.eval=some (.int .i64 i))∨(x=none∧i=n):=by
 cases x with
 |none=>simp only[St.bnd,V.k.injEq,Value.int.injEq,true_and]at h;exact .inr ⟨rfl,h.symm⟩
 |some y=>
   have hy:=hx y rfl
   simp only[St.bnd]at h
   rw[h]at hy
   exact .inl (by simp[Rep.k_inv hy])
theorem bounds_run {len cap i j:Nat} {lo hi:Option Value} (h1:i≤j) (h2:j≤len) (h3:len≤cap) (hl:lo=some (.int .i64 (i:Int))∨lo=none∧i=0) (hh:hi=some (.int .i64 (j:Int))∨hi=none∧j=len):(Instr.sliceBounds true len cap lo hi none).run P w= .ok (i,j,cap) w:=by
 have h4:j≤cap:=by omega
 rcases hl with rfl|⟨rfl,rfl⟩<;>rcases hh with rfl|⟨rfl,rfl⟩<;>simp[Instr.sliceBounds,Instr.sliceBound,asIntOf,h1,h4]
theorem slice_ok (K : Ok B M h m w) {T : TypeId} {x : Operand} {lo hi mx : Option Operand} (ho : o.op = .slice T x lo hi mx) (e : aop P o σ sc = some r) (hk : ∀ p ∈ r.ks, p.1 = p.2) (H : Opd w (Av M h m) m o a σ) (hr : ∀ b ∈ r.rd, h b = σ.ho b) : Goal_ B M P o a h m w r := by
 cases mx with
 | some y2 =>
  cases lo with
  |some _=>simp[aop,ho]at e
  | none =>
   cases hi with
   |none=>simp[aop,ho]at e
   | some y =>
    simp only[aop,ho]at e
    have hx:=H.ev (x:=x) (by simp[ho,Op.operands])
    have hy:=H.ev (x:=y) (by simp[ho,Op.operands])
    have hy2:=H.ev (x:=y2) (by simp[ho,Op.operands])
    split at e
    · rename_i el l l0 i0 j0 z l' hl' h2 hz sc' hd hxe
      split at e
      · rename_i n hn
        split at e
        · rename_i hcs
          have hcs:=Nat.eq_of_beq_eq_true hcs
          subst hcs
          injection e with e
          subst e
          have hkey:=hk _ (List.mem_singleton.2 rfl)
          simp only[List.cons.injEq,V.sl.injEq,and_true,V.k.injEq,Value.int.injEq,true_and]at hkey
          obtain⟨rfl,h0,hj,hj2⟩:=hkey
          have h0:i0=0:=by omega
          subst h0
          rw[hj]at hy
          rw[hj2]at hy2
          have hy:=Rep.k_inv hy
          have hy2:=Rep.k_inv hy2
          rw[hxe]at hx
          generalize hu:a.eval x=u at hx
          cases hx with
          |sl _ ad b off c zz _ us h1 h2' h3 h4 h5 h6=>
            have hlen:l'.length=j0:=by rw[←hl'];simp;omega
            have hel:∀ q cs,l'[q]? =some cs→l[q]? =some cs:=fun q cs hq=>by
              rw[←hl',List.getElem?_drop,Nat.zero_add]at hq
              rw[List.getElem?_take]at hq
              split at hq
              · exact hq
              · cases hq
            have hrep:Rep w (Av M h m) m (.slice (if j0=0 then ad else ad.map (·.add (0*z))) j0 (j0 - 0)) (.sl l'):=by
              rw[←hlen]
              refine .sl _ _ b off _ zz _ us (by omega) (by omega) (fun hp=> ?_) (fun cs hc=> ?_) (fun i j cs y hi hj=> ?_) (fun i j cs y hi hj=>h6 i j cs y (hel i cs hi) hj)
              · obtain⟨rfl,hA,hB⟩:=h3 (by omega)
                refine⟨?_,hA,hB⟩
                rw[if_neg (by omega)]
                simp[Addr.add_lit]
              · obtain⟨q,hq⟩:=List.getElem?_of_mem hc
                exact h4 cs (List.mem_of_getElem? (hel q cs hq))
              · exact h5 i j cs y (hel i cs hi) hj
            have hb:(Instr.sliceBounds true l.length c none (some (.int .i64 (j0:Int))) (some (.int .i64 (j0:Int)))).run P w= .ok (0,j0,j0) w:=by
              have h7:j0≤c:=by omega
              simp[Instr.sliceBounds,Instr.sliceBound,asIntOf,h7]
            refine Exec.val (w':=w) ?_ (.same K hrep)
            simp[execOp,ho,Instr.sliceAt,Instr.slice,hu,hy,hy2,run_under hd,run_size hn,hb]
        · cases e
      · cases e
    · cases e
 | none =>
  simp only[aop,ho]at e
  have hx:=H.ev (x:=x) (by simp[ho,Op.operands])
  split at e
  · rename_i el l l0 i0 j0 z l' hl' h2 hz sc' hd hxe
    split at e
    · rename_i n hn
      split at e
      · rename_i hcs
        have hcs:=Nat.eq_of_beq_eq_true hcs
        subst hcs
        injection e with e
        subst e
        have hkey:=hk _ (List.mem_singleton.2 rfl)
        simp only[List.cons.injEq,V.sl.injEq,and_true]at hkey
        obtain⟨rfl,hlo,hhi⟩:=hkey
        have blo:=bnd_ok (fun y hy=>H.ev (by simp[ho,Op.operands,hy])) hlo
        have bhi:=bnd_ok (fun y hy=>H.ev (by simp[ho,Op.operands,hy])) hhi
        rw[hxe]at hx
        generalize hu:a.eval x=u at hx
        cases hx with
        |sl _ ad b off c zz _ us h1 h2' h3 h4 h5 h6=>
          have hlen:l'.length=j0 - i0:=by rw[←hl'];simp;omega
          have hel:∀ q cs,l'[q]? =some cs→l[i0+q]? =some cs:=fun q cs hq=>by
            rw[←hl',List.getElem?_drop]at hq
            rw[List.getElem?_take]at hq
            split at hq
            · exact hq
            · cases hq
          have hzz:0<l'.length→zz=z:=fun hp=>by
            have h7:=hel 0 _ (List.getElem?_eq_getElem hp)
            have h8:=List.mem_of_getElem? h7
            rw[←h4 _ h8,hz _ h8]
          have hb:=bounds_run (P:=P) (w:=w) h2.1 h2.2 h1 (lo:=lo.map a.eval) (hi:=hi.map a.eval) (blo.imp id fun g=>⟨by rw[g.1];rfl,by have:=g.2;omega⟩) (bhi.imp id fun g=>⟨by rw[g.1];rfl,by have:=g.2;omega⟩)
          have hrep:Rep w (Av M h m) m (.slice (if c=i0 then ad else ad.map (·.add (i0*z))) l'.length (c - i0)) (.sl l'):=by
            refine .sl _ _ b (off+i0*zz) _ zz _ (fun i j=>us (i0+i) j) (by omega) (by omega) (fun hp=> ?_) (fun cs hc=> ?_) (fun i j cs y hi hj=> ?_) (fun i j cs y hi hj=>h6 (i0+i) j cs y (hel i cs hi) hj)
            · obtain⟨rfl,hA,hB⟩:=h3 (by omega)
              refine⟨?_,hA,hB⟩
              rw[if_neg (by omega),←hzz hp]
              simp[Addr.add_lit]
            · obtain⟨q,hq⟩:=List.getElem?_of_mem hc
              exact h4 cs (List.mem_of_getElem? (hel q cs hq))
            · have:=h5 (i0+i) j cs y (hel i cs hi) hj
              rw[Nat.add_mul]at this
              rwa [show off+i0*zz+i*zz+j=off+(i0*zz+i*zz)+j by omega]
          rw[hlen]at hrep
          refine Exec.val (w':=w) ?_ (.same K hrep)
          simp[execOp,ho,Instr.sliceAt,Instr.slice,hu,run_under hd,run_size hn,hb]
      · cases e
    · cases e
  · rename_i el b l0 i0 j0 h2 hp sc' hd hxe
    split at e
    · rename_i U z' l n hb hn
      split at e
      · rename_i hcs
        have hcs:=Nat.eq_of_beq_eq_true hcs
        subst hcs
        injection e with e
        subst e
        have hkey:=hk _ (List.mem_singleton.2 rfl)
        simp only[List.cons.injEq,V.sl.injEq,and_true]at hkey
        obtain⟨rfl,hlo,hhi⟩:=hkey
        have blo:=bnd_ok (fun y hy=>H.ev (by simp[ho,Op.operands,hy])) hlo
        have bhi:=bnd_ok (fun y hy=>H.ev (by simp[ho,Op.operands,hy])) hhi
        obtain⟨v',xs,h1,_,h3,_,_⟩:=K.rw b U z' l ((hr b (by simp)).trans hb)
        rw[hxe]at hx
        generalize hu:a.eval x=u at hx
        cases hx with
        |ow _ _ ad n' c' hm'=>
          rw[h1]at hm'
          injection hm' with hm'
          subst hm'
          obtain⟨g,cap,hv,hcap⟩:=own_pos h3.kit hp
          injection hv with e1 e2 e3
          subst e1;subst e2;subst e3
          have hbd:=bounds_run (P:=P) (w:=w) h2.1 h2.2 hcap.1 (lo:=lo.map a.eval) (hi:=hi.map a.eval) (blo.imp id fun g=>⟨by rw[g.1];rfl,by have:=g.2;omega⟩) (bhi.imp id fun g=>⟨by rw[g.1];rfl,by have:=g.2;omega⟩)
          refine Exec.val (w':=w) ?_ (.same K (.os _ b z' i0 j0 g _ _ h1 h2.1 h2.2))
          simp[execOp,ho,Instr.sliceAt,Instr.slice,hu,run_under hd,run_size hn,hbd,Addr.add_lit]
      · cases e
    · cases e
  · cases e
theorem argV_rep:∀ (xs:List Operand) (Ts:List TypeId),(∀ x∈xs,Rep w A m (a.eval x) (σ.ev x)∧∀ T,Rep w A m (a.eval x) (σ.evT P T x))→
  (argV P σ xs Ts).length=xs.length∧∀ (j:Nat) (y:V),(argV P σ xs Ts)[j]? =some y→∀ x,xs[j]? =some x→Rep w A m (a.eval x) y
 |[],_,_=>⟨rfl,fun j y h=>by simp[argV]at h⟩
 |x::r,[],H=>by
  obtain⟨h1,h2⟩:=argV_rep r [] fun x hx=>H x (List.mem_cons_of_mem _ hx)
  refine⟨by simp[argV,h1],fun j y hy z hz=> ?_⟩
  cases j with
  |zero=>
    simp only[argV,List.getElem?_cons_zero,Option.some.injEq]at hy hz
    subst hy;subst hz
    exact(H x (List.mem_cons_self ..)).1
  |succ j=>
    simp only[argV,List.getElem?_cons_succ]at hy hz
    exact h2 j y hy z hz
 |x::r,T::l,H=>by
  obtain⟨h1,h2⟩:=argV_rep r l fun x hx=>H x (List.mem_cons_of_mem _ hx)
  refine⟨by simp[argV,h1],fun j y hy z hz=> ?_⟩
  cases j with
  |zero=>
    simp only[argV,List.getElem?_cons_zero,Option.some.injEq]at hy hz
    subst hy;subst hz
    exact(H x (List.mem_cons_self ..)).2 T
  |succ j=>
    simp only[argV,List.getElem?_cons_succ]at hy hz
    exact h2 j y hy z hz
theorem call_ok (K : Ok B M h m w) {c : Call} {x : Operand} (ho : o.op = .call c) (hc : c.callee = .value x) (e : aop P o σ sc = some r) (hk : ∀ p ∈ r.ks, p.1 = p.2) (H : Opd w (Av M h m) m o a σ)
  (hl:∀ (f:FuncId) (caps:List V) (cs:Array Value) (f0:FuncId) (hs0:List HO) (ds0:List V) (D:RD) (ρ:List Nat) (hp:PureT P f0 hs0 ds0 D) (sc':List (Fa P)),a.eval x= .func (.func f) #[] cs→cs.size=caps.length→(∀ j y,caps[j]? =some y→Rep w (Av M h m) m (cs.getD j undef) y)→lendV σ f (argV P σ c.args.toList c.argTypes.toList++caps) f0 hs0 ds0 D ρ sc'=some r→Goal_ B M P o a h m w r)
  (hr:∀ b∈r.rd,h b=σ.ho b) (hn:∀ b∈r.ws.map (·.1),σ.h.length≤b→h b= .dead∧m b=none):Goal_ B M P o a h m w r:=by
 simp only[aop,ho,hc]at e
 have hcv:=H.ev (x:=x) (by rw[ho];simp[Op.operands,Call.operands,hc])
 have hops:∀ x∈c.args.toList,x∈o.op.operands.toList:=fun x hx=>by
  rw[ho]
  simp only[Op.operands,Call.operands,hc,Array.toList_append]
  exact List.mem_append.2 (.inr hx)
 obtain⟨v1,v2⟩:=argV_rep (w:=w) (A:=Av M h m) (m:=m) (P:=P) (σ:=σ) (a:=a) c.args.toList c.argTypes.toList fun x hx=>⟨H.ev (hops x hx),fun T=>H.evT (hops x hx)⟩
 split at e
 · rename_i f caps hcl
   rw[hcl]at hcv
   obtain⟨cs,hce,hcs,hcr⟩:∃ cs:Array Value,a.eval x= .func (.func f) #[] cs∧cs.size=caps.length∧∀ j x,caps[j]? =some x→Rep w (Av M h m) m (cs.getD j undef) x:=by
    generalize a.eval x=u at hcv
    cases hcv with
    |cl _ _ cs _ h1 h2=>exact⟨cs,rfl,h1,h2⟩
   split at e
   · rename_i f0 hs0 ds0 D ρ hp sc'
     exact hl f caps cs f0 hs0 ds0 D ρ hp sc' hce hcs hcr e
   split at e
   · rename_i ds ks f0 ds0 D hp sc' hds hnl
     have main:∀ (A':Nat→Prop),(∀ g,A' g→Av M h m g)→(∀ b∈ks,h b=σ.ho b∧∀ v g,m b=some v→blk v=some g→¬A' g)→(V.cl f []::ds=V.cl f0 []::ds0)→∀ (ws:List (Nat×HO)) (d:V),
       (∀ u w',D.ok (fun g=>g<w.heap.size) A' no w' u→Below w.heap.size w w'→Post B M h m w ws d u w')→Exec P o a w (Post B M h m w ws d):=by
      intro A' hA hks hkey ws d hpost
      simp only[List.cons.injEq,V.cl.injEq,and_true]at hkey
      obtain⟨rfl,rfl⟩:=hkey
      obtain⟨k1,k2⟩:=exps_rep (C:=fun b=>h b=σ.ho b∧∀ v g,m b=some v→blk v=some g→¬A' g) (fun x y ks e hc u hr=>exp_rep K hA 5 x y ks e hc u hr) _ ds ks hds hks
      have hargs:Reps w A' no (c.args.map a.eval++cs) ds:=by
       refine⟨by rw[k1,List.length_append,v1];simp[hcs],fun j x hx=> ?_,K.gl.mo (m:=m) (m':=m) ⟨Nat.le_refl _,fun _ _ _=>rfl,fun g e=> .inl (hA g e),fun _ _ e=>e⟩⟩
       refine k2 j x hx _ fun y hy=> ?_
       rcases Nat.lt_or_ge j (argV P σ c.args.toList c.argTypes.toList).length with hlt|hlt
       · rw[List.getElem?_append_left hlt]at hy
         rw[v1,Array.length_toList]at hlt
         have h1:c.args.toList[j]? =some c.args[j]:=by simp[hlt]
         have h2:=v2 j y hy _ h1
         rw[Array.getD_eq_getD_getElem?,Array.getElem?_append_left (by simpa using hlt),Array.getElem?_map,←Array.getElem?_toList,h1]
         exact h2
       · rw[List.getElem?_append_right hlt]at hy
         have h2:=hcr _ y hy
         rw[v1,Array.length_toList]at hlt h2
         rw[Array.getD_eq_getD_getElem?,Array.getElem?_append_right (by simpa using hlt)]
         simpa[Array.getD_eq_getD_getElem?]using h2
      have hcall:=hp.2 w A' _ (fun g hg=>K.av_lt (hA g hg)) hargs
      refine .inr (.inr ⟨f,c.args.map a.eval++cs, ?_,hcall.mono fun e w' he=> ?_⟩)
      · have:=hp.1 (c.args.map a.eval++cs) w
        simp[execOp,ho,resolve,hc,hce,Deferred.ofValue,invoke,this]
      · obtain⟨v,rfl,h1,h2⟩:=he
        exact⟨v,rfl,hpost v w' h1 h2⟩
     have hlive:∀ b∈ks,(σ.ho b).own=true:=exps_live (C:=fun b=>(σ.ho b).own=true) (fun x y ks e=>exp_live 5 x y ks e) _ ds ks hds
     have hsub:∀ g,Av M (upds h (kills ks)) m g→Av M h m g:=fun g e=>((Mo.kills (M:=M) (h:=h) (m:=m) (w:=w) ks).av g e).elim id fun h3=>absurd ((Ok.kills K ks).av_lt e) (by omega)
     split at e
     · rename_i d hp2
       split at e
       · injection e with e
         subst e
         refine main (Av M h m) (fun g e=>e) (fun b hb=>by cases hb) (hk _ (List.mem_singleton.2 rfl)) [] d fun u w' h1 h2=> ?_
         have h1:Rep w' (Av M h m) no u d:=h1
         exact⟨m,K.call h2,h1.mo Mo.up,.call h2,Bl.of h2 K.bs,fun b hb=> .inl hb⟩
       · split at e
         · rename_i hf
           injection e with e
           subst e
           refine main (Av M (upds h (kills ks)) m) hsub (fun b hb=>⟨hr b hb,fun v g h1 h2=>kills_out K hb (by rw[hr b hb];exact hlive b hb) h1 h2⟩) (hk _ (List.mem_singleton.2 rfl)) [] d fun u w' h1 h2=> ?_
           have h1:Rep w' (Av M (upds h (kills ks)) m) no u d:=h1
           exact⟨m,K.call h2,flat_rep hf h1,.call h2,Bl.of h2 K.bs,fun b hb=> .inl hb⟩
         · rename_i hf
           injection e with e
           subst e
           refine main (Av M (upds h (kills ks)) m) hsub (fun b hb=>⟨hr b hb,fun v g h1 h2=>kills_out K hb (by rw[hr b hb];exact hlive b hb) h1 h2⟩) (hk _ (List.mem_singleton.2 rfl)) (ks.map fun b=>(b,frz σ.ho ks b)) d fun u w' h1 h2=> ?_
           have h1:Rep w' (Av M (upds h (kills ks)) m) no u d:=h1
           obtain⟨k3,k4⟩:=frzs_ok K (h0:=σ.ho) (ks:=ks) hr hlive
           have hup:Mo w' (Av M (upds h (kills ks)) m) no w' (Av M (upds h (ks.map fun b=>(b,frz σ.ho ks b))) m) m:=⟨Nat.le_refl _,fun _ _ _=>rfl,fun g e=> .inl ((k4 g).1 e),fun _ _ e=>by simp[E.no]at e⟩
           exact⟨m,k3.call h2,h1.mo hup,(Mo.frzs K hr hlive).trans (.call h2),Bl.of h2 K.bs,fun b hb=> .inl hb⟩
     · rename_i T z l hp2
       injection e with e
       subst e
       refine main (Av M (upds h (kills ks)) m) hsub (fun b hb=>⟨hr b hb,fun v g h1 h2=>kills_out K hb (by rw[hr b hb];exact hlive b hb) h1 h2⟩) (hk _ (List.mem_singleton.2 rfl)) _ _ fun u w' h1 h2=> ?_
       obtain⟨q1,xs,q2,q3,q4⟩:=h1
       obtain⟨k3,k4⟩:=frzs_ok K (h0:=σ.ho) (ks:=ks) hr hlive
       have hnew:=hn σ.h.length (by simp) (Nat.le_refl _)
       have hin:σ.h.length∉ks:=fun hb=>by
        have:=hr _ hb
        have h3:=hlive _ hb
        rw[←this,hnew.1]at h3
        cases h3
       have hkey:(ks.map fun b=>(b,frz σ.ho ks b)).map (·.1)=ks:=by rw[List.map_map];exact(List.map_congr_left fun b _=>rfl).trans (List.map_id ks)
       have hd:upds h (ks.map fun b=>(b,frz σ.ho ks b)) σ.h.length= .dead:=by rw[updsO _ _ (by rw[hkey];exact hin)];exact hnew.1
       have hu:∀ g,E.blk u=some g→w.heap.size≤g:=fun g hg=>by
        rcases q2.2 with⟨rfl,_⟩|⟨g',cap,cur,rfl,hB,_⟩
        · cases hg
        · simp only[E.blk,Option.some.injEq]at hg;subst hg;exact Nat.le_of_not_lt hB
       have hown:OwR w' B T z u l.length xs:=⟨q2.1,by
        rcases q2.2 with h5|⟨g',cap,cur,h5,hB,r⟩
        · exact .inl h5
        · exact .inr ⟨g',cap,cur,h5,fun e=>hB (K.bs _ e),r⟩⟩
       have hmo:Mo w (Av M h m) m w' (Av M (upd (upds h (ks.map fun b=>(b,frz σ.ho ks b))) σ.h.length (.rw T z l)) (upd m σ.h.length (some u))) (upd m σ.h.length (some u)):=(Mo.frzs K hr hlive).trans (.new hd hnew.2 hu h2)
       refine⟨upd m σ.h.length (some u),k3.newAt hd hnew.2 hu h2 q1 hown q3 (fun j x hx=>(q4 j x hx).mo ⟨Nat.le_refl _,fun _ _ _=>rfl,fun g e=> .inl (e.imp (k4 g).1 id),fun _ _ e=>e⟩), ?_,hmo,Bl.of h2 K.bs,fun b hb=> ?_⟩
       · rcases q2.2 with⟨rfl,_⟩|⟨g',cap,cur,rfl,_⟩
         · exact .ow _ _ _ _ _ upd_eq
         · exact .ow _ _ _ _ _ upd_eq
       · by_cases e:b=σ.h.length
         · subst e;exact .inr (by simp)
         · rw[upd_ne e]at hb;exact .inl hb
     · cases e
     · cases e
   · cases e
 · cases e
theorem len_ok (K : Ok B M h m w) {c : Call} (ho : o.op = .call c) (hc : c.callee = .builtin .len) (e : aop P o σ sc = some r) (H : Opd w (Av M h m) m o a σ) (hr : ∀ b ∈ r.rd, h b = σ.ho b) : Goal_ B M P o a h m w r := by
 simp only[aop,ho,hc]at e
 split at e
 · rename_i x T ts hargs hts
   have hx:=H.ev (x:=x) (by rw[ho];simp[Op.operands,Call.operands,hc,hargs])
   have ha:c.args= #[x]:=by apply Array.ext';exact hargs
   have ht:c.argTypes[0]? =some T:=by rw[←Array.getElem?_toList,hts];rfl
   have hrun:∀ d n,P.underlying T=some d→(∀ w:World,(Builtin.len_ c.argTypes o.type #[a.eval x]).run P w= .ok (.int .i64 n) w)→Exec P o a w (Post B M h m w [] (.k (.int .i64 n))):=by
    intro d n hd hl
    refine Exec.val (u:= .int .i64 n) (w':=w) ?_ (.same K (.k _ _))
    simp[execOp,ho,resolve,hc,ha,invoke,builtin,hl]
   split at e
   · rename_i el l hd hxe
     injection e with e
     subst e
     rw[hxe]at hx
     generalize hu:a.eval x=u at hx
     refine hrun _ _ hd fun w=> ?_
     rw[hu]
     cases hx with
     |sl _ ad b off cap z _ us h1 h2 h3 h4 h5 h6=>simp[Builtin.len_,ht,run_under hd,goInt]
   · rename_i el hd hxe
     injection e with e
     subst e
     rw[hxe]at hx
     generalize hu:a.eval x=u at hx
     refine hrun _ _ hd fun w=> ?_
     rw[hu]
     cases hx with
     |nl=>simp[Builtin.len_,ht,run_under hd,goInt]
   · rename_i el b hd hxe
     have hown:∀ {U z n:Nat} {v:Value} {xs:List Value},m b=some v→OwR w B U z v n xs→r=⟨.k (.int .i64 n),[],[b],sc,[]⟩→Goal_ B M P o a h m w r:=by
      intro U z n v xs h1 h3 e
      subst e
      rw[hxe]at hx
      generalize hu:a.eval x=u at hx
      refine hrun _ _ hd fun w=> ?_
      rw[hu]
      cases hx with
      |ow _ _ ad n' c' hm'=>
        rw[h1]at hm'
        injection hm' with hm'
        have:n'=n:=by
         rcases h3.2 with⟨h5,h6⟩|⟨g,cap,cur,h5,_⟩
         · rw[hm']at h5;injection h5 with _ h5;omega
         · rw[hm']at h5;injection h5
        subst this
        simp[Builtin.len_,ht,run_under hd,goInt]
     split at e
     · rename_i U z' l hb
       injection e with e
       obtain⟨v',xs,h1,h2,h3,h4,h5⟩:=K.rw b U z' l ((hr b (by subst e;simp)).trans hb)
       exact hown h1 h3 e.symm
     · cases e
   · rename_i st hd hxe
     injection e with e
     subst e
     rw[hxe]at hx
     have hx:=Rep.k_inv hx
     refine hrun _ _ hd fun w=> ?_
     rw[hx]
     simp[Builtin.len_,ht,run_under hd,goInt]
   · cases e
 · cases e
theorem chunks_ok {n:Nat}:∀ (k:Nat) (l:List V),l.length=k*n→(chunks n k l).length=k∧(∀ cs∈chunks n k l,cs.length=n)∧(chunks n k l).flatten=l
 |0,l,h=>⟨rfl,fun _ h=>by simp[chunks]at h,by simp at h;subst h;rfl⟩
 |k+1,l,h=>by
  rw[Nat.succ_mul]at h
  obtain⟨h1,h2,h3⟩:=chunks_ok (n:=n) k (l.drop n) (by simp;omega)
  refine⟨by simp[chunks,h1],fun cs hcs=> ?_,by simp[chunks,h3]⟩
  simp only[chunks,List.mem_cons]at hcs
  rcases hcs with rfl|hcs
  · simp;omega
  · exact h2 cs hcs
theorem exps_nil {h0:Nat→HO} (K:Ok B M h m w) {n:Nat} {l ys:List V} (e:exps (exp h0 n) l=some (ys,[])):ys.length=l.length∧∀ (j:Nat) (y:V),ys[j]? =some y→∀ (u:Value),(∀ x,l[j]? =some x→Rep w (Av M h m) m u x)→Rep w (Av M h m) no u y:=
 exps_rep (C:=fun b=>h b=h0 b∧∀ v g,m b=some v→blk v=some g→¬Av M h m g) (fun x y ks e hc u hr=>exp_rep K (fun g e=>e) n x y ks e hc u hr) l ys [] e (fun b hb=>by cases hb)
theorem rep_one {us:List Value} {ys:List V} (hl:us.length=ys.length) (hr:∀ j y,ys[j]? =some y→Rep w A m (us.getD j undef) y) (h1:ys.all one=true):∀ u∈us,u.oneCell'=true:=by
 intro u hu
 obtain⟨j,hj⟩:=List.mem_iff_getElem?.1 hu
 have hlt:=(List.getElem?_eq_some_iff.1 hj).1
 have h2:=hr j ys[j] (List.getElem?_eq_getElem (by omega))
 rw[List.getD_eq_getElem?_getD,hj]at h2
 rw[List.all_eq_true]at h1
 exact one_cell h2 (h1 _ (List.getElem_mem _))
theorem flat_set {z:Nat} {new:List V} (hn:new.length=z):∀ {l:List (List V)} {i:Nat} (j:Nat),(∀ cs∈l,cs.length=z)→i<l.length→(l.set i new).flatten[j]? =if i*z≤j∧j<i*z+z then new[j - i*z]? else l.flatten[j]?
 |[],i,j,_,h=>by simp at h
 |c::r,0,j,hz,_=>by
  have hc:=hz c (List.mem_cons_self ..)
  simp only[List.set_cons_zero,List.flatten_cons,Nat.zero_mul,Nat.zero_add,Nat.sub_zero,Nat.zero_le,true_and]
  by_cases h:j<z
  · rw[if_pos h,List.getElem?_append_left (by omega)]
  · rw[if_neg h,List.getElem?_append_right (by omega),List.getElem?_append_right (by omega),hn,hc]
 |c::r,i+1,j,hz,h=>by
  have hc:=hz c (List.mem_cons_self ..)
  have ih:=fun j=>flat_set (l:=r) (i:=i) hn j (fun cs hcs=>hz cs (List.mem_cons_of_mem _ hcs)) (by simpa using h)
  simp only[List.set_cons_succ,List.flatten_cons]
  rw[Nat.succ_mul]
  by_cases h1:j<z
  · rw[if_neg (by omega),List.getElem?_append_left (by omega),List.getElem?_append_left (by omega)]
  · rw[List.getElem?_append_right (by omega),List.getElem?_append_right (by omega),hc,ih]
    by_cases h2:i*z≤j - z∧j - z<i*z+z
    · rw[if_pos h2,if_pos (by omega),show j - (i*z+z)=j - z - i*z by omega]
    · rw[if_neg h2,if_neg (by omega)]
end
end Go.Proofs.YtfdfbenejkmnlaaGreatDoor.E
