/-
 THE LISTED VARIABLES of package claim and of both hashes: what the rows' condition gives.
-/
import Derived.Test.YtmgagedefmmloaaGreatDoorLawO
import Derived.Test.YtmgagedefmmloaaGreatDoorRows
import Derived.OpenShut
import Derived.LaidMore
import Derived.MakeChecks
import Derived.ChangeArms
namespace Go.Proofs.YtmgagedefmmloaaGreatDoor.E
open Go.RowKit
set_option linter.unusedVariables false
set_option linter.unusedSimpArgs false
theorem len4 {α:Type}:∀ {l:List α},l.length=4→∃ a b c d,l=[a,b,c,d]
 |[a,b,c,d],_=>⟨a,b,c,d,rfl⟩
 |[],h=>by simp at h
 |[_],h=>by simp at h
 |[_,_],h=>by simp at h
 |[_,_,_],h=>by simp at h
 |_::_::_::_::_::_,h=>by simp at h
section
variable {H:Type} {enc:TypeId×Value→H} {w:World} {base:Nat} {spare:Nat→Bool} {held:Bool} {m:Nat} {cs:List Value} {ps:List MemPlace} {lo hi:Int} {f g:Bool}
theorem gN: Tryz.prog.globalNamed "sherd/claim.needs" =some 0 :=by kernel_rfl
theorem tN:(Tryz.prog.globals[0]?).map (·.type)=some 140 :=by kernel_rfl
abbrev rowD (H:Type) (lo hi:Int) (f g:Bool):DataW H:= .agg [.lit (.int .i64 lo),.lit (.int .i64 hi),.lit (.bool f),.lit (.bool g)]
theorem need_f:(Tryz.prog.fieldsOf 139).size=4:=by kernel_rfl
theorem need_u: Tryz.prog.underlying 139 =some (.struct (Tryz.prog.fieldsOf 139)):=by kernel_rfl
theorem need_c: Tryz.prog.cellsOf 139 =4:=by kernel_rfl
theorem int_c: Tryz.prog.cellsOf 3 =1:=by kernel_rfl
theorem bool_c: Tryz.prog.cellsOf 4 =1:=by kernel_rfl
noncomputable def nf_ (i:Nat):Field:=(Tryz.prog.fieldsOf 139)[i]?.getD default
theorem need_at (i:Nat) (h:i<4):(Tryz.prog.fieldsOf 139)[i]? =some (nf_ i):=by
 unfold nf_
 rw[Array.getElem?_eq_getElem (by rw[need_f];exact h)];rfl
theorem nt0:(nf_ 0).type= 3 ∧(nf_ 0).offset=0:=⟨by kernel_rfl,by kernel_rfl⟩
theorem nt1:(nf_ 1).type= 3 ∧(nf_ 1).offset=1:=⟨by kernel_rfl,by kernel_rfl⟩
theorem nt2:(nf_ 2).type= 4 ∧(nf_ 2).offset=2:=⟨by kernel_rfl,by kernel_rfl⟩
theorem nt3:(nf_ 3).type= 4 ∧(nf_ 3).offset=3:=⟨by kernel_rfl,by kernel_rfl⟩
theorem need_row (h:DataW.trod enc Tryz.prog w base spare held m 139 cs=some (rowD H lo hi f g,ps)):cs=[.int .i64 lo,.int .i64 hi,.bool f,.bool g]:=by
 obtain⟨xs,n,_,hx,hl,hlen,hf⟩:=DataW.trod_struct need_u h
 rw[need_f]at hlen
 rw[need_c]at hl
 obtain⟨y0,y1,y2,y3,rfl⟩:=len4 hlen
 simp only[List.map_cons,List.map_nil,Prod.mk.injEq,DataW.agg.injEq,List.cons.injEq,and_true]at hx
 obtain⟨⟨e0,e1,e2,e3⟩,_⟩:=hx
 obtain⟨a,b,c,d,rfl⟩:=len4 hl
 have g0:=hf 0 _ (need_at 0 (by omega))
 have g1:=hf 1 _ (need_at 1 (by omega))
 have g2:=hf 2 _ (need_at 2 (by omega))
 have g3:=hf 3 _ (need_at 3 (by omega))
 rw[nt0.1,nt0.2,int_c]at g0
 rw[nt1.1,nt1.2,int_c]at g1
 rw[nt2.1,nt2.2,bool_c]at g2
 rw[nt3.1,nt3.2,bool_c]at g3
 obtain⟨v0,c0,x0,_⟩:=DataW.trod_int (k:= .i64) Tryz.underlying3 (show _=some y0 from g0)
 obtain⟨v1,c1,x1,_⟩:=DataW.trod_int (k:= .i64) Tryz.underlying3 (show _=some y1 from g1)
 obtain⟨v2,c2,x2⟩:=DataW.trod_bool Tryz.underlying4 (show _=some y2 from g2)
 obtain⟨v3,c3,x3⟩:=DataW.trod_bool Tryz.underlying4 (show _=some y3 from g3)
 rw[x0]at e0
 rw[x1]at e1
 rw[x2]at e2
 rw[x3]at e3
 simp at c0 c1 c2 c3 e0 e1 e2 e3
 rw[c0,c1,c2,c3,e0,e1,e2,e3]
end
def needsL:List Value:=[.int .i64 0,.int .i64 0,.bool false,.bool true,.int .i64 1,.int .i64 16,.bool true,.bool false,.int .i64 2,.int .i64 16,.bool false,.bool false,.int .i64 1,.int .i64 16,.bool false,.bool false]
theorem arr_u: Tryz.prog.underlying 140 =some (.array 4 139):=by kernel_rfl
theorem arr_c: Tryz.prog.cellsOf 140 =16:=by kernel_rfl
theorem needs_all {w : World} {m : Nat} {cs : List Value} {ps : List MemPlace} (h : DataW.trod (fun _ => ()) Tryz.prog w 0 (fun _ => true) false m 140 cs = some (Rows.laid_sherd_claim_needs, ps)) : cs = needsL := by
 obtain⟨xs,n,_,hx,hl,hlen,hel⟩:=DataW.trod_array arr_u h
 rw[arr_c]at hl
 obtain⟨y0,y1,y2,y3,rfl⟩:=len4 hlen
 unfold Rows.laid_sherd_claim_needs at hx
 simp only[List.map_cons,List.map_nil,Prod.mk.injEq,DataW.agg.injEq,List.cons.injEq,and_true]at hx
 obtain⟨⟨e0,e1,e2,e3⟩,_⟩:=hx
 have g0:=hel 0 (by omega)
 have g1:=hel 1 (by omega)
 have g2:=hel 2 (by omega)
 have g3:=hel 3 (by omega)
 rw[need_c]at g0 g1 g2 g3
 obtain⟨d0,p0⟩:=y0
 obtain⟨d1,p1⟩:=y1
 obtain⟨d2,p2⟩:=y2
 obtain⟨d3,p3⟩:=y3
 simp only at e0 e1 e2 e3
 subst e0;subst e1;subst e2;subst e3
 have r0:=need_row (show _=some (rowD Unit 0 0 false true,p0)from g0)
 have r1:=need_row (show _=some (rowD Unit 1 16 true false,p1)from g1)
 have r2:=need_row (show _=some (rowD Unit 2 16 false false,p2)from g2)
 have r3:=need_row (show _=some (rowD Unit 1 16 false false,p3)from g3)
 have hc : cs = (cs.drop (0 * 4)).take 4 ++ ((cs.drop (1 * 4)).take 4 ++ ((cs.drop (2 * 4)).take 4 ++ (cs.drop (3 * 4)).take 4)) := by
  apply List.ext_getElem?
  intro i
  simp only[List.getElem?_append,List.length_append,List.length_take,List.length_drop,List.getElem?_take,List.getElem?_drop,hl]
  by_cases h1:i<4
  · simp[h1]
  · by_cases h2:i<8
    · simp[h1,show i - 4<4 by omega,show 4+(i - 4)=i by omega]
    · by_cases h3:i<12
      · simp[h1,show¬i - 4<4 by omega,show i - 4 - 4<4 by omega,show 8+(i - 4 - 4)=i by omega]
      · by_cases h4:i<16
        · simp[h1,show¬i - 4<4 by omega,show¬i - 4 - 4<4 by omega,show i - 4 - 4 - 4<4 by omega,show 12+(i - 4 - 4 - 4)=i by omega]
        · rw[List.getElem?_eq_none (by omega)]
          simp[h1,show¬i - 4<4 by omega,show¬i - 4 - 4<4 by omega,show¬i - 4 - 4 - 4<4 by omega]
 rw[hc,r0,r1,r2,r3]
 rfl
section
variable {w:World} {m:Nat} {cs:List Value} {ps:List MemPlace} {l:List Int}
theorem gK1: Tryz.prog.globalNamed "sherd/hash.constants" =some 3 :=by kernel_rfl
theorem tK1:(Tryz.prog.globals[3]?).map (·.type)=some 221 :=by kernel_rfl
theorem aK_u: Tryz.prog.underlying 221 =some (.array 64 202):=by kernel_rfl
theorem aK_c: Tryz.prog.cellsOf 221 =64:=by kernel_rfl
theorem eK_u: Tryz.prog.underlying 202 =some (.int .u32):=by kernel_rfl
theorem eK_c: Tryz.prog.cellsOf 202 =1:=by kernel_rfl
def lit32 (x:Int):DataW Unit:= .lit (.int .u32 x)
theorem laid64 (h:DataW.trod (fun _=>()) Tryz.prog w 0 (fun _=>true) false m 221 cs=some (.agg (l.map lit32),ps)):cs=l.map (Value.int .u32):=by
 obtain⟨xs,n,_,hx,hl,hlen,hel⟩:=DataW.trod_array aK_u h
 rw[aK_c]at hl
 simp only[Prod.mk.injEq,DataW.agg.injEq]at hx
 have hm:=hx.1
 have hll:l.length=64:=by
  have:=congrArg List.length hm
  simpa[hlen]using this
 apply List.ext_getElem?
 intro i
 rcases Nat.lt_or_ge i 64 with hi|hi
 · have h1:=hel i hi
   rw[eK_c,Nat.mul_one,List.getElem?_eq_getElem (by omega)]at h1
   obtain⟨x,c1,c2,_⟩:=DataW.trod_int (k:= .u32) eK_u h1
   have h2:cs[i]? =some (.int .u32 x):=by
    have:=congrArg (fun r:List Value=>r[0]?) c1
    simpa[hl,hi]using this
   have h3:(l.map lit32)[i]? =some (.lit (.int .u32 x)):=by
    rw[hm,List.getElem?_map,List.getElem?_eq_getElem (by omega),c2]
    rfl
   rw[List.getElem?_map,List.getElem?_eq_getElem (by omega)]at h3
   unfold lit32 at h3
   simp only[Option.map_some,Option.some.injEq,DataW.lit.injEq,Lit.int.injEq,true_and]at h3
   rw[h2,List.getElem?_map,List.getElem?_eq_getElem (by omega),h3]
   rfl
 · rw[List.getElem?_eq_none (by omega),List.getElem?_eq_none (by rw[List.length_map];omega)]
end
theorem gK2: Tryz.prog.globalNamed "sherd/sherdref02.constants" =some 1 :=by kernel_rfl
theorem tK2:(Tryz.prog.globals[1]?).map (·.type)=some 221 :=by kernel_rfl
def laid1:List (String×DataW Unit):=[("sherd/sherdref02.constants",Rows.laid_sherd_sherdref02_constants),("sherd/hash.constants",Rows.laid_sherd_hash_constants),("sherd/claim.needs",Rows.laid_sherd_claim_needs)]
theorem lK1:(Rows.laid_sherd_hash_constants:DataW Unit)= .agg (shaK.map lit32):=rfl
theorem lK2:(Rows.laid_sherd_sherdref02_constants:DataW Unit)= .agg (shaK.map lit32):=rfl
theorem gl_eq:gl=[(0,needsL.map V.k),(3,(shaK.map (Value.int .u32)).map V.k),(1,(shaK.map (Value.int .u32)).map V.k)]:=by kernel_rfl
theorem glo_cells {W:World} {g:Nat} {l:List Value} (h0:0<l.length) (hcell:∀ (j:Nat) (v:Value),l[j]? =some v→W.cell? ⟨g,j,none⟩=some v):Rep W (fun _=>False) no (.pointer (some ⟨g,0,none⟩)) (.ip (l.map V.k)):=by
 refine .ip _ _ 0 _ (fun j=>l.getD j undef) (fun h=>h) (cb_of (hcell 0 _ (List.getElem?_eq_getElem h0))) (fun j x hj=> ?_) (fun j x hj=> ?_)
 · simp only[List.getElem?_map,Option.map_eq_some_iff]at hj
   obtain⟨v,hv,rfl⟩:=hj
   rw[Nat.zero_add,hcell j v hv,List.getD_eq_getElem?_getD,hv];rfl
 · simp only[List.getElem?_map,Option.map_eq_some_iff]at hj
   obtain⟨v,hv,rfl⟩:=hj
   rw[List.getD_eq_getElem?_getD,hv]
   exact .k _ _
theorem glo_of {W:World} (h:laidMetH Tryz.prog laid1 W):Glo W (fun _=>False):=by
 rw[MakeChecks.laidMetH_plain _ _ _ (by kernel_rfl)]at h
 obtain⟨ps,⟨g2,t2,cs2,f2,p2,q2,hg2,ht2,hv2,hd2,hr2,_⟩,_,_⟩:=h
 obtain⟨g0,t0,cs0,f0,p0,q0,hg0,ht0,hv0,hd0,hr,_⟩:=hr2
 obtain⟨g1,t1,cs1,f1,p1,q1,hg1,ht1,hv1,hd1,_⟩:=hr
 obtain rfl:=Option.some.inj (gK2.symm.trans hg2)
 obtain rfl:=Option.some.inj (tK2.symm.trans ht2)
 obtain rfl:=Option.some.inj (gK1.symm.trans hg0)
 obtain rfl:=Option.some.inj (tK1.symm.trans ht0)
 obtain rfl:=Option.some.inj (gN.symm.trans hg1)
 obtain rfl:=Option.some.inj (tN.symm.trans ht1)
 rw[lK2]at hd2
 rw[lK1]at hd0
 have e2:=laid64 hd2
 have e0:=laid64 hd0
 have e1:=needs_all hd1
 intro p hp
 rw[gl_eq]at hp
 simp only[List.mem_cons,List.not_mem_nil,or_false]at hp
 rcases hp with rfl|rfl|rfl
 · exact glo_cells (by simp[needsL]) fun j v hj=>by
    rw[World.var?_cell hg1 hv1 j,←Array.getElem?_toList,e1]
    exact hj
 · exact glo_cells (by simp[shaK]) fun j v hj=>by
    rw[World.var?_cell hg0 hv0 j,←Array.getElem?_toList,e0]
    exact hj
 · exact glo_cells (by simp[shaK]) fun j v hj=>by
    rw[World.var?_cell hg2 hv2 j,←Array.getElem?_toList,e2]
    exact hj
end Go.Proofs.YtmgagedefmmloaaGreatDoor.E
