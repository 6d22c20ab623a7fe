/-
 APPEND whose result is only read from then on.
-/
import Derived.Test.YtfdfbenejkmnlaaGreatDoorCaS
import Derived.Test.YtfdfbenejkmnlaaGreatDoorDrA
import Derived.Test.YtfdfbenejkmnlaaGreatDoorWalkUns
import Derived.Lib.Bytealg
namespace Go.Proofs.YtfdfbenejkmnlaaGreatDoor.E.Ca
open Go.RowKit
set_option linter.unusedVariables false
set_option linter.unusedSimpArgs false
theorem sm64 {x:Int} (h: -2000≤x∧x≤2000):W.Is64 x:=by unfold W.Is64;omega
structure G64 (c:CM):Prop where
 h:W.Is64 c.by_∧W.Is64 c.seq∧W.Is64 c.tick∧W.Is64 c.kind∧W.Is64 c.w
 r:∀ p∈c.refs,W.Is64 p.1∧W.Is64 p.2
 f:W.Is64 c.fit.a∧W.Is64 c.fit.b∧W.Is64 c.fit.ea∧W.Is64 c.fit.eb∧W.Is64 c.fit.many
section
variable {l:List Int} {i:Nat} {b s t kd n:Int} {rf:List (Int×Int)} {c:CM} {L:List CM}
theorem z64:W.Is64 0:=sm64 (by omega)
theorem zF_64:W.Is64 zF.a∧W.Is64 zF.b∧W.Is64 zF.ea∧W.Is64 zF.eb∧W.Is64 zF.many:=⟨z64,z64,z64,z64,z64⟩
theorem c0_64:G64 c0:=⟨⟨z64,z64,z64,z64,z64⟩,fun p hp=>by simp at hp,zF_64⟩
theorem atz_64 {m:Nat} (h:m≤1000):W.Is64 (atz l i m):=by have:=atz_in l i m;exact sm64 (by omega)
theorem clG_64 (hb:W.Is64 b) (hs:W.Is64 s) (ht:W.Is64 t) (hk:W.Is64 kd) (hr:∀ p∈rf,W.Is64 p.1∧W.Is64 p.2):G64 (clG l i b s t rf kd):=by
 unfold clG
 split
 · exact⟨⟨hb,hs,ht,z64,by have:=atz_in l (5*i+4) 8;exact sm64 (x:=1+atz l (5*i+4) 8) (by omega)⟩,fun p hp=>by simp at hp,zF_64⟩
 · refine⟨⟨hb,hs,ht,sm64 (x:=1) (by omega),z64⟩,hr, ?_⟩
   have h1:=atz_in l (5*i+2) 2
   have h2:=atz_in l (5*i+2+1) 1
   have h3:=atz_in l (5*i+2+2) 11
   have h4:=atz_in l (5*i+2+3) 11
   have h5:=atz_in l (5*i+2+4) 2
   refine⟨sm64 (x:=atz l (5*i+2) 2) (by omega),sm64 (x:=atz l (5*i+2) 2+1+atz l (5*i+2+1) 1) (by omega),sm64 (x:=atz l (5*i+2+2) 11) (by omega),sm64 (x:=atz l (5*i+2+3) 11) (by omega),sm64 (x:=1+atz l (5*i+2+4) 2) (by omega)⟩
 · exact⟨⟨hb,hs,ht,hk,z64⟩,hr,zF_64⟩
theorem getD_64 (h:∀ c∈L,G64 c) (i:Nat):G64 (L.getD i c0):=by
 rw[List.getD_eq_getElem?_getD]
 cases e:L[i]? with
 |none=>exact c0_64
 |some c=>exact h c (List.mem_of_getElem? e)
theorem refs_64 (h:∀ c∈L,G64 c) (bits:Int):∀ k,∀ p∈refsF L bits k,W.Is64 p.1∧W.Is64 p.2
 |0,p,hp=>by simp[refsF]at hp
 |k+1,p,hp=>by
  have ih:=refs_64 h bits k
  unfold refsF at hp
  split at hp
  · unfold insN at hp
    rw[List.mem_append,List.mem_append,List.mem_singleton]at hp
    rcases hp with(hp|hp)|hp
    · exact ih p (List.mem_of_mem_take hp)
    · subst hp
      have:=getD_64 h k
      exact⟨this.h.1,this.h.2.1⟩
    · exact ih p (List.mem_of_mem_drop hp)
  · exact ih p hp
theorem good_64:∀ i,i≤10→∀ c∈(goodF l i).1,G64 c
 |0,_,c,hc=>by cases hc
 |i+1,hi,c,hc=>by
  have ih:=good_64 i (by omega)
  rcases List.mem_append.1 hc with h|h
  · exact ih c h
  · rw[List.mem_singleton]at h
    subst h
    have ht:=good_tick (l:=l) (i+1)
    have ht':(goodF l (i+1)).2=tkG (goodF l i).2 l i:=rfl
    rw[ht']at ht
    have hs:=seq_le (goodF l i).1 (byG l i) (goodF l i).1.length
    have hl:=good_len (l:=l) i
    have hk:=kdG_in l i
    refine clG_64 (atz_64 (by omega)) (sm64 (by omega)) (sm64 (by omega)) (sm64 ?_) (refs_64 ih _ _)
    unfold kd2
    split<;>omega
theorem goodL_64:∀ c∈goodL l,G64 c:=good_64 _ (Nat.min_le_left _ _)
theorem someC_64 (h:G64 c):G64 (someC l i c):=by
 have a2:=atz_in l (5*i+4) 3
 have d2:W.Is64 ((atz l (5*i+4) 3).tdiv 2):=by
  refine sm64 ?_
  generalize atz l (5*i+4) 3=x at a2
  have hx:x=0∨x=1∨x=2∨x=3:=by omega
  rcases hx with rfl|rfl|rfl|rfl<;>decide
 unfold someC
 split
 · refine⟨⟨h.h.1,atz_64 (by omega),atz_64 (by omega),sm64 (x:=3) (by omega),h.h.2.2.2.2⟩,fun p hp=> ?_,h.f⟩
   simp only[List.mem_cons,List.not_mem_nil,or_false]at hp
   rcases hp with rfl|rfl
   · exact⟨atz_64 (by omega),atz_64 (by omega)⟩
   · exact⟨atz_64 (by omega),d2⟩
 · exact⟨⟨h.h.1,atz_64 (by omega),atz_64 (by omega),h.h.2.2.2⟩,h.r,h.f⟩
theorem some_64:∀ i,∀ c∈someF l i,G64 c
 |0,c,hc=>by cases hc
 |i+1,c,hc=>by
  rcases List.mem_append.1 hc with h|h
  · exact some_64 i c h
  · rw[List.mem_singleton]at h
    subst h
    exact someC_64 (getD_64 goodL_64 i)
theorem someC_fb (h:FB c):FB (someC l i c):=by
 unfold someC
 split
 · exact h
 · exact h
theorem getD_fb (h:∀ c∈L,FB c) (i:Nat):FB (L.getD i c0):=by
 rw[List.getD_eq_getElem?_getD]
 cases e:L[i]? with
 |none=>exact zF_bits
 |some c=>exact h c (List.mem_of_getElem? e)
theorem some_fb:∀ i,∀ c∈someF l i,FB c
 |0,c,hc=>by cases hc
 |i+1,c,hc=>by
  rcases List.mem_append.1 hc with h|h
  · exact some_fb i c h
  · rw[List.mem_singleton]at h
    subst h
    exact someC_fb (getD_fb (good_fb _) i)
theorem odd_64 (h:G64 c) (hn:W.Is64 n) (x:Int):G64 (oddF c x n):=by
 have ap:∀ a:Int×Int,W.Is64 a.1∧W.Is64 a.2→∀ p∈c.refs++[a],W.Is64 p.1∧W.Is64 p.2:=fun a ha p hp=>by
  rcases List.mem_append.1 hp with q|q
  · exact h.r p q
  · rw[List.mem_singleton]at q
    subst q
    exact ha
 unfold oddF
 by_cases e0:x=0
 · rw[if_pos e0];exact⟨⟨hn,h.h.2⟩,h.r,h.f⟩
 rw[if_neg e0]
 by_cases e1:x=1
 · rw[if_pos e1];exact⟨⟨h.h.1,hn,h.h.2.2⟩,h.r,h.f⟩
 rw[if_neg e1]
 by_cases e2:x=2
 · rw[if_pos e2];exact⟨⟨h.h.1,h.h.2.1,hn,h.h.2.2.2⟩,h.r,h.f⟩
 rw[if_neg e2]
 by_cases e3:x=3
 · rw[if_pos e3];exact⟨⟨h.h.1,h.h.2.1,h.h.2.2.1,hn,h.h.2.2.2.2⟩,h.r,h.f⟩
 rw[if_neg e3]
 by_cases e4:x=4
 · rw[if_pos e4];exact⟨⟨h.h.1,h.h.2.1,h.h.2.2.1,h.h.2.2.2.1,hn⟩,h.r,h.f⟩
 rw[if_neg e4]
 by_cases e5:x=5
 · rw[if_pos e5];exact⟨h.h,ap _ ⟨hn,hn⟩,h.f⟩
 rw[if_neg e5]
 by_cases e6:x=6
 · rw[if_pos e6];exact⟨h.h,ap _ ⟨h.h.1,h.h.2.1⟩,h.f⟩
 rw[if_neg e6]
 by_cases e7:x=7
 · rw[if_pos e7];exact⟨h.h,h.r,h.f.1,h.f.2.1,h.f.2.2.1,h.f.2.2.2.1,hn⟩
 rw[if_neg e7]
 by_cases e8:x=8
 · rw[if_pos e8];exact⟨h.h,h.r,hn,h.f.2⟩
 rw[if_neg e8]
 by_cases e9:x=9
 · rw[if_pos e9];exact⟨h.h,h.r,h.f⟩
 rw[if_neg e9]
 by_cases e10:x=10
 · rw[if_pos e10];exact⟨h.h,h.r,h.f⟩
 rw[if_neg e10]
 exact⟨h.h,h.r,h.f.1,h.f.2.1,h.f.2.2.1,hn,h.f.2.2.2.2⟩
theorem dig_fs {n:Nat} (h:I.Can (digs n)→I.Bd 100 (I.val (digs n))):(digs n).length≤100:=by
 have h1:=h (digs_ok n).1
 rw[(digs_ok n).2]at h1
 have:=bd_len h1
 rwa [Int.natAbs_natCast]at this
theorem fs_of {r:Rat} (h:Bn 100 (ofR r)):Fs r:=⟨dig_fs h.1,dig_fs h.2⟩
/-- The generated claims have codes. -/
structure Gq (c:CM) (q:CQ):Prop where
 e:c=q.cm
 s:Sq q
theorem gq_of (h:G64 c) (hf:FB c) {q:CQ} (e:c=q.cm) (hr:q.refs.length≤20):Gq c q:=by
 subst e
 refine⟨rfl,fun x hx=> ?_,h.r,fun x hx=> ?_,fun r hr=> ?_,hr⟩
 · simp only[hdQ,List.mem_cons,List.not_mem_nil,or_false]at hx
   rcases hx with rfl|rfl|rfl|rfl|rfl
   · exact h.h.1
   · exact h.h.2.1
   · exact h.h.2.2.1
   · exact h.h.2.2.2.1
   · exact h.h.2.2.2.2
 · simp only[FQ.wh,List.mem_cons,List.not_mem_nil,or_false]at hx
   rcases hx with rfl|rfl|rfl|rfl|rfl
   · exact h.f.1
   · exact h.f.2.1
   · exact h.f.2.2.1
   · exact h.f.2.2.2.1
   · exact h.f.2.2.2.2
 · simp only[FQ.qs,List.mem_cons,List.not_mem_nil,or_false]at hr
   rcases hr with rfl|rfl|rfl|rfl|rfl|rfl<;>exact fs_of (hf _ (by simp[nu,CQ.cm,FQ.fm]))
theorem all_gq {c:CM} (h:c∈someL l++goodL l):∃ q,Gq c q∧q.refs.length≤10:=by
 rcases List.mem_append.1 h with h|h
 · obtain⟨q,e,hr⟩:=some_q _ c h
   exact⟨q,gq_of (some_64 _ c h) (some_fb _ c h) e (by omega),hr⟩
 · obtain⟨q,e,hr⟩:=goodL_q c h
   exact⟨q,gq_of (goodL_64 c h) (good_fb _ c h) e (by omega),hr⟩
end
section
variable {c d:CQ}
theorem vz_of {x:Int} (h:(digs x.natAbs).length≤100):VZ x:=by
 unfold VZ W.Is64 znL
 rw[List.length_cons]
 omega
theorem Sq.vc (h:Sq c):VC c:=by
 have hn:=h.n
 have hl:=flatR_len c.refs
 refine⟨⟨h.h,sm64 (by simp[hdQ])⟩,⟨h.r64,sm64 (by omega)⟩,⟨h.f,sm64 (by simp[FQ.wh])⟩,fun r hr=> ?_⟩
 have:=h.q r hr
 exact⟨vz_of this.1,vz_of this.2⟩
theorem Sq.len (h:Sq c):0<(encC c).length∧(encC c).length≤20000:=by
 have h3:=enc3_len h
 have e3:=encC_3 c
 have q0:=(h.q c.fit.r0 (by simp[FQ.qs])).len;have q1:=(h.q c.fit.r1 (by simp[FQ.qs])).len;have q2:=(h.q c.fit.r2 (by simp[FQ.qs])).len;have q3:=(h.q c.fit.r3 (by simp[FQ.qs])).len;have q4:=(h.q c.fit.r4 (by simp[FQ.qs])).len;have q5:=(h.q c.fit.r5 (by simp[FQ.qs])).len
 rw[e3]
 simp only[FQ.qs,List.flatMap_cons,List.flatMap_nil,List.length_append,List.length_nil]
 omega
theorem eqP_iff:eqP c d↔c=d:=by
 constructor
 · obtain⟨a1,a2,a3,a4,a5,⟨f1,f2,f3,f4,f5,r0,r1,r2,r3,r4,r5⟩,a7⟩:=c
   obtain⟨b1,b2,b3,b4,b5,⟨g1,g2,g3,g4,g5,s0,s1,s2,s3,s4,s5⟩,b7⟩:=d
   rintro ⟨h1,h2,h3,h4,h5,h6,h7,h8⟩
   simp only[FQ.wh,FQ.qs,List.cons.injEq,and_true]at h1 h2 h3 h4 h5 h6 h7 h8
   obtain⟨rfl,rfl,rfl,rfl,rfl⟩:=h7
   obtain⟨rfl,rfl,rfl,rfl,rfl,rfl⟩:=h8
   subst h1;subst h2;subst h3;subst h4;subst h5;subst h6
   rfl
 · rintro rfl
   exact⟨rfl,rfl,rfl,rfl,rfl,rfl,rfl,rfl⟩
end
end Go.Proofs.YtfdfbenejkmnlaaGreatDoor.E.Ca
namespace Go.Proofs.YtfdfbenejkmnlaaGreatDoor.E
open Go.RowKit
set_option linter.unusedVariables false
theorem Pure.ro {P:Program} {f:FuncId} {ds:List V} {T z:Nat} {l:List (List V)} (h:Pure P f ds (.o T z l)):Pure P f ds (.v (.sl l)):=
 ⟨h.1,fun w M args hM hr=>(h.2 w M args hM hr).mono fun e w' ⟨v,e1,ok,bel⟩=>⟨v,e1,by
  obtain⟨q1,xs,q2,q3,q4⟩:=ok
  show Rep w' M no v (.sl l)
  have hxl:xs.length=l.flatten.length:=by rw[q2.1,flat_len q1]
  rcases q2.2 with⟨rfl,e0⟩|⟨g,cap,cur,rfl,hB,hh,hnc,hcm,hcs',htk⟩
  · have h0:l=[]:=List.length_eq_zero_iff.1 e0
    subst h0
    exact .sl _ none 0 0 0 z [] (fun _ _=>undef) (Nat.le_refl _) (Nat.zero_le _) (fun h=>by simp at h) (fun _ h=>by simp at h) (fun i j cs x h=>by simp at h) (fun i j cs x h=>by simp at h)
  · refine .sl _ _ g 0 cap z l (fun i j=>xs.getD (i*z+j) undef) hnc hcm (fun _=>⟨rfl,fun hA=>hB (hM g hA),⟨cur,T,(0,0),hh⟩⟩) q1 (fun i j cs x hi hj=> ?_) (fun i j cs x hi hj=> ?_)
    · have e1:=flat_get q1 hi hj
      have e2:=(List.getElem?_eq_some_iff.1 e1).1
      have e3:xs[i*z+j]? =some (xs.getD (i*z+j) undef):=by rw[List.getD_eq_getElem?_getD,List.getElem?_eq_getElem (by omega)];rfl
      have:=row_cell q2 rfl e3
      rwa [show 0+i*z+j=i*z+j by omega]
    · exact(q4 _ x (flat_get q1 hi hj)).mo ⟨Nat.le_refl _,fun _ _ _=>rfl,fun g e=> .inl (.inl e),fun _ _ e=>e⟩,bel⟩⟩
end Go.Proofs.YtfdfbenejkmnlaaGreatDoor.E
namespace Go.Proofs.YtfdfbenejkmnlaaGreatDoor.E.Ca
open Go.RowKit
set_option linter.unusedVariables false
set_option linter.unusedSimpArgs false
section
variable {P:Program} {w:World} {s a b:List UInt8} {q r:CQ}
theorem run_loadBytes:∀ (s:List UInt8) (g o:Nat) (acc:List UInt8),(∀ (j:Nat) (c:UInt8),s[j]? =some c→w.cell? ⟨g,o+j,none⟩=some (.int .u8 (c.toNat:Int)))→(Extern.Bytes.loadBytes ⟨g,o,none⟩ s.length ⟨acc.toArray⟩).run P w= .ok ⟨(acc++s).toArray⟩ w
 |[],g,o,acc,_=>by simp[Extern.Bytes.loadBytes]
 |c::s,g,o,acc,h=>by
  have h0:=h 0 c rfl
  rw[Nat.add_zero]at h0
  have ih:=run_loadBytes s g (o+1) (acc++[c]) (fun j d hj=>by
   have:=h (j+1) d hj
   rwa [show o+(j+1)=o+1+j by omega]at this)
  have e:(⟨acc.toArray⟩:ByteArray).push c=⟨(acc++[c]).toArray⟩:=by
   apply ByteArray.ext
   simp[ByteArray.push]
  have e2:((c.toNat:Int)).toNat.toUInt8=c:=by
   rw[Int.toNat_natCast]
   exact UInt8.ofNat_toNat
  have hl:(load ⟨g,o,none⟩).run P w= .ok (.int .u8 (c.toNat:Int)) w:=by simp[load,Sem.run,h0]
  simp only[List.length_cons,Extern.Bytes.loadBytes,Sem.run_bind,hl,Result.andThen_ok]
  rw[e2,e,Addr.add_lit,ih]
  simp
theorem bytesOf_row {A:Nat→Prop} {m:Nat→Option Value} {u:Value} (h:Rep w A m u (.sl (byL s))):(Extern.Bytes.bytesOf u).run P w= .ok ⟨s.toArray⟩ w:=by
 have hlen:(byL s).length=s.length:=List.length_map ..
 generalize hx:V.sl (byL s)=x at h
 cases h with
 |sl _ ad b off c z l us h1 h2 h3 h4 h5 h6=>
  injection hx with hx
  subst hx
  by_cases hp:0<(byL s).length
  · obtain⟨rfl,_,_⟩:=h3 hp
    have hz:z=1:=by
     have h7:=List.getElem_mem (l:=byL s) hp
     have h8:=h4 _ h7
     obtain⟨y,_,hy⟩:=List.mem_map.1 h7
     rw[←hy]at h8
     exact h8.symm
    subst hz
    have:=run_loadBytes (P:=P) (w:=w) s b off [] (fun j y hy=>by
     have e1:(byL s)[j]? =some [.k (.int .u8 (y.toNat:Int))]:=by unfold byL;rw[List.getElem?_map,hy];rfl
     have e2:=h5 j 0 _ _ e1 rfl
     have e3:=Rep.k_inv (h6 j 0 _ _ e1 rfl)
     rw[e3]at e2
     simpa using e2)
    rw[hlen]
    rw[List.nil_append]at this
    exact this
  · have h0:s=[]:=List.length_eq_zero_iff.1 (by omega)
    subst h0
    cases ad with
    |none=>rfl
    |some q=>rfl
 |_=>cases hx
def mkB2 (ts:Array TypeId) (xs:List Operand):Op:= .call ⟨.value (xs.getD 0 (.tmp 0)), #[xs.getD 1 (.tmp 0),xs.getD 2 (.tmp 0)],ts⟩
/-- The library's comparison of bytes. -/
theorem x_bcmp {ts:Array TypeId}:Ext PP (mkB2 ts) [.cl 73 [],.sl (byL a),.sl (byL b)] [] [] (ni (Lib.compareBytes a b)):=by
 intro B M h m w' ac op xs ho K hl hr hrd _
 obtain⟨x0,x1,x2,rfl⟩:∃ x y z,xs=[x,y,z]:=by
  match xs,hl with
  |[x,y,z],_=>exact⟨x,y,z,rfl⟩
 have r0:=hr 0 x0 _ rfl rfl
 have r1:=hr 1 x1 _ rfl rfl
 have r2:=hr 2 x2 _ rfl rfl
 simp only[mkB2,List.getD_cons_zero,List.getD_cons_succ]at ho
 have hce:ac.eval x0= .func (.func 73) #[] #[]:=by
  generalize ac.eval x0=u at r0
  cases r0 with
  |cl _ _ cs _ h1 h2=>
   have:cs= #[]:=Array.eq_empty_of_size_eq_zero (by simpa using h1)
   rw[this]
 have hrun:(callFunc 73 #[ac.eval x1,ac.eval x2]).run PP w'= .ok (.value (.int .i64 (Lib.compareBytes a b))) w':=by
  rw[run_callFunc_extern Tryz.func73 (by kernel_rfl) (by kernel_rfl) (by kernel_rfl) (e:=Extern.BytealgCompare.compare) (by kernel_rfl)]
  have e1:=bytesOf_row (P:=PP) r1
  have e2:=bytesOf_row (P:=PP) r2
  have:(Extern.BytealgCompare.compare #[ac.eval x1,ac.eval x2]).run PP w'= .ok (.int .i64 (Lib.compareBytes a b)) w':=by
   change Sem.run PP (do pure (goInt (Extern.BytealgCompare.cmp (←Extern.Bytes.bytesOf (ac.eval x1)) (←Extern.Bytes.bytesOf (ac.eval x2))))) w'=_
   simp only[Sem.run_bind,e1,e2,Result.andThen_ok,Sem.run_pure]
   rw[Lib.cmp_eq]
   rfl
  rw[this]
  rfl
 refine Exec.val (u:= .int .i64 (Lib.compareBytes a b)) (w':=w') ?_ (.same K (.k _ _))
 simp[execOp,ho,resolve,hce,Deferred.ofValue,invoke,hrun]
theorem e_bcmp (a b:List UInt8):Pure PP 41 [.sl (byL a),.sl (byL b)] (ni (Lib.compareBytes a b)):=tr [.ext (some 7) _ _ _ _ _ (x_bcmp (ts:= #[89,89]) (a:=a) (b:=b))] (by kernel_rfl)
/-- The order by which claims are sorted at first. -/
def cmp1 (q r:CQ):Int:=orI (ordN q.cm.nm r.cm.nm) (Lib.compareBytes (encC q) (encC r))
theorem e_cmp1 (hq:Sq q) (hr:Sq r):Pure PP 37 [.ag (dQ q),.ag (dQ r)] (ni (cmp1 q r)):=by
 have n1:=e_name q.cm
 have n2:=e_name r.cm
 have o:=e_order q.cm.nm r.cm.nm
 have e1:=Pure.ro (e_cenc hq)
 have e2:=Pure.ro (e_cenc hr)
 have bc:=e_bcmp (encC q) (encC r)
 have oo:=e_or (ordN q.cm.nm r.cm.nm) (Lib.compareBytes (encC q) (encC r))
 exact tr [cl n1,cl n2,cl o,cl e1,cl e2,cl bc,.ro,cl oo] (by kernel_rfl)
end
end Go.Proofs.YtfdfbenejkmnlaaGreatDoor.E.Ca
namespace Go.Proofs.YtfdfbenejkmnlaaGreatDoor.E.Ca
open Go.RowKit
set_option linter.unusedVariables false
set_option linter.unusedSimpArgs false
/-- A comparer: a total order, or what is left of one. -/
structure Cmp3 {α:Type} (f:α→α→Int):Prop where
 neg:∀ x y,f y x= -(f x y)
 tr:∀ x y z,f x y≤0→f y z≤0→f x z≤0
section
variable {α β:Type} {f g:α→α→Int} {x y z:α} {T:Nat}
theorem Cmp3.refl (h:Cmp3 f) (x:α):f x x=0:=by have:=h.neg x x;omega
theorem Cmp3.lt_le (h:Cmp3 f) (a:f x y<0) (b:f y z≤0):f x z<0:=by
 have h1:=h.tr x y z (by omega) b
 refine Classical.byContradiction fun hc=> ?_
 have h2:f z x≤0:=by have:=h.neg x z;omega
 have h3:=h.tr y z x b h2
 have:=h.neg x y
 omega
theorem Cmp3.le_lt (h:Cmp3 f) (a:f x y≤0) (b:f y z<0):f x z<0:=by
 have h1:=h.tr x y z a (by omega)
 refine Classical.byContradiction fun hc=> ?_
 have h2:f z x≤0:=by have:=h.neg x z;omega
 have h3:=h.tr z x y h2 a
 have:=h.neg y z
 omega
theorem Cmp3.or_ (hf:Cmp3 f) (hg:Cmp3 g):Cmp3 (fun x y=>orI (f x y) (g x y)):=by
 refine⟨fun x y=> ?_,fun x y z a b=> ?_⟩
 · have h1:=hf.neg x y
   have h2:=hg.neg x y
   unfold orI
   by_cases e:f x y=0
   · rw[if_pos e,if_pos (by omega)];exact h2
   · rw[if_neg e,if_neg (by omega)];exact h1
 · have key:∀ u v,orI (f u v) (g u v)≤0→f u v<0∨(f u v=0∧g u v≤0):=fun u v h=>by
    unfold orI at h
    by_cases e:f u v=0
    · rw[if_pos e]at h;exact .inr ⟨e,h⟩
    · rw[if_neg e]at h;exact .inl (by omega)
   have back:∀ u v,f u v<0∨(f u v=0∧g u v≤0)→orI (f u v) (g u v)≤0:=fun u v h=>by
    unfold orI
    rcases h with h|⟨h,k⟩
    · rw[if_neg (by omega)];omega
    · rw[if_pos h];exact k
   refine back x z ?_
   rcases key x y a with h1|⟨h1,k1⟩
   · rcases key y z b with h2|⟨h2,k2⟩
     · exact .inl (hf.lt_le h1 (by omega))
     · exact .inl (hf.lt_le h1 (by omega))
   · rcases key y z b with h2|⟨h2,k2⟩
     · exact .inl (hf.le_lt (by omega) h2)
     · have h3:=hf.tr x y z (by omega) (by omega)
       have h4:=hf.tr z y x (by have:=hf.neg y z;omega) (by have:=hf.neg x y;omega)
       have h5:=hf.neg x z
       exact .inr ⟨by omega,hg.tr x y z k1 k2⟩
theorem Cmp3.on (h:Cmp3 f) (e:β→α):Cmp3 (fun x y=>f (e x) (e y)):=⟨fun x y=>h.neg _ _,fun x y z=>h.tr _ _ _⟩
theorem cI_cmp:Cmp3 cI:=by
 refine⟨fun x y=> ?_,fun x y z=> ?_⟩
 · unfold cI
   repeat' split
   all_goals omega
 · unfold cI
   repeat' split
   all_goals omega
theorem cI_eq {x y:Int} (h:cI x y=0):x=y:=by
 unfold cI at h
 by_cases h1:x<y
 · rw[if_pos h1]at h;omega
 · rw[if_neg h1]at h
   by_cases h2:x>y
   · rw[if_pos h2]at h;omega
   · omega
theorem orI_eq {x y:Int} (h:orI x y=0):x=0∧y=0:=by
 unfold orI at h
 by_cases e:x=0
 · rw[if_pos e]at h;exact⟨e,h⟩
 · rw[if_neg e]at h;exact absurd h e
theorem ordN_cmp:Cmp3 ordN:=Cmp3.or_ (cI_cmp.on Prod.fst) (cI_cmp.on Prod.snd)
theorem ordN_eq {p q:Int×Int} (h:ordN p q=0):p=q:=by
 obtain⟨h1,h2⟩:=orI_eq h
 exact Prod.ext (cI_eq h1) (cI_eq h2)
theorem cb_neg:∀ a b:List UInt8,Lib.compareBytes b a= -(Lib.compareBytes a b)
 |[],[]=>rfl
 |[],_::_=>rfl
 |_::_,[]=>rfl
 |a::s,b::t=>by
  have ih:=cb_neg s t
  unfold Lib.compareBytes
  by_cases h1:a<b
  · have h2:¬b<a:=by rw[UInt8.lt_iff_toNat_lt]at*;omega
    rw[if_pos h1,if_neg h2,if_pos h1];rfl
  · by_cases h2:b<a
    · rw[if_pos h2,if_neg h1,if_pos h2]
    · rw[if_neg h2,if_neg h1,if_neg h1,if_neg h2];exact ih
theorem cb_tr:∀ a b c:List UInt8,Lib.compareBytes a b≤0→Lib.compareBytes b c≤0→Lib.compareBytes a c≤0
 |[],_,[],_,_=>Int.le_refl _
 |[],_,_::_,_,_=>by unfold Lib.compareBytes;omega
 |_::_,[],_,h,_=>by unfold Lib.compareBytes at h;omega
 |_::_,_::_,[],_,h=>by unfold Lib.compareBytes at h;omega
 |a::s,b::t,c::u,h1,h2=>by
  have ih:=cb_tr s t u
  unfold Lib.compareBytes at h1 h2⊢
  simp only[UInt8.lt_iff_toNat_lt]at h1 h2⊢
  repeat' split at h1
  all_goals repeat' split at h2
  all_goals repeat' split
  all_goals first|omega|exact ih h1 h2
theorem cb_eq:∀ {a b:List UInt8},Lib.compareBytes a b=0→a=b
 |[],[],_=>rfl
 |[],_::_,h=>by unfold Lib.compareBytes at h;omega
 |_::_,[],h=>by unfold Lib.compareBytes at h;omega
 | a :: s, b :: t, h => by
  unfold Lib.compareBytes at h
  by_cases h1:a<b
  · rw[if_pos h1]at h;omega
  · rw [if_neg h1] at h
    by_cases h2:b<a
    · rw[if_pos h2]at h;omega
    · rw[if_neg h2]at h
      have e:a=b:=by
       rw[UInt8.lt_iff_toNat_lt]at h1 h2
       exact UInt8.toNat_inj.1 (by omega)
      rw[e,cb_eq h]
theorem cb_cmp:Cmp3 Lib.compareBytes:=⟨cb_neg,cb_tr⟩
theorem cmp1_cmp:Cmp3 cmp1:=Cmp3.or_ (ordN_cmp.on fun q:CQ=>q.cm.nm) (cb_cmp.on encC)
def cmp2 (q r:CQ):Int:=cmpC q.cm r.cm
theorem cmp2_cmp:Cmp3 cmp2:=Cmp3.or_ (cI_cmp.on fun q:CQ=>q.cm.tick) (ordN_cmp.on fun q:CQ=>q.cm.nm)
theorem cmp1_eq {q r:CQ} (hq:Sq q) (hr:Sq r) (h:cmp1 q r=0):q=r:=by
 have h2:=(orI_eq h).2
 exact codecC.inj hq.vc hr.vc (cb_eq h2)
theorem cmp2_nm {q r:CQ} (h:cmp2 q r=0):q.cm.nm=r.cm.nm:=ordN_eq (orI_eq h).2
end
end Go.Proofs.YtfdfbenejkmnlaaGreatDoor.E.Ca
namespace Go.Proofs.YtfdfbenejkmnlaaGreatDoor.E.Ca
open Go.RowKit Go.Shelf
set_option linter.unusedVariables false
set_option linter.unusedSimpArgs false
abbrev TCl:Nat:= 42
section
variable {f:CQ→CQ→Int} {L L':List CQ} {cmp:FuncId}
theorem e_blen0:Pure PP 71 [.k (.int .u64 0)] (ni 0):=by
 refine⟨okF_of (by kernel_rfl),fun w M args hM hr=> ?_⟩
 have h:=Any.bits_Len (SlLaysF0.n15.bits (P:=PP) (ρ:=renS) {laS with}) 0 w (by omega) (by omega)
 have ha:args= #[.int .u64 0]:=by
  have h0:=Rep.k_inv (hr.el 0 _ rfl)
  have hs:=hr.sz
  apply Array.ext
  · simpa using hs
  · intro i hi hi'
    have hi1:i<1:=by simpa using hi'
    match i,hi1 with
    |0,_=>rw[Array.getD_eq_getD_getElem?,Array.getElem?_eq_getElem hi]at h0;exact h0
 subst ha
 refine(show Calls PP 71 #[.int .u64 0] w _ from h).mono fun e w' ⟨he,hw⟩=> ?_
 subst hw
 exact⟨_,he,.k _ _,Below.refl _ _⟩
noncomputable abbrev fI_:Func:=fnOf PP 107
noncomputable abbrev fP_:Func:=fnOf PP 70
abbrev D0:RD:= .io 1 [.rw TCl 35 []] (.tu [])
theorem e_is0:PureT PP 107 [.rw TCl 35 []] [.ow 0,ni 0,ni 0,.cl cmp []] D0:=by
 refine pfT (by kernel_rfl) (.to mo_ [] [0,1,2,3,8] [0] 1 [.eqv 11 (ni (IntKind.i64.wrap (0+1))) (ni (1:Nat)) rfl] (td':=lp fI_ 0) (σ':=at_ fI_ [(0,.ow 0),(1,ni 0),(2,ni 0),(3,.cl cmp []),(8,ni 1)] [.rw TCl 35 []]) ?_ (by kernel_rfl))
 exact fi [nf] (by kernel_rfl) (by kernel_rfl)
theorem e_pdq0:PureT PP 70 [.rw TCl 35 []] [.ow 0,ni 0,ni 0,ni 0,.cl cmp []] D0:=by
 refine pfT (by kernel_rfl) (.to mo_ [] [0,1,2,3,4,10,11] [0] 1 [] (td':=lp fP_ 0) (σ':=at_ fP_ [(0,.ow 0),(1,ni 0),(2,ni 0),(3,ni 0),(4,.cl cmp []),(10,bo true),(11,bo true)] [.rw TCl 35 []]) ?_ (by kernel_rfl))
 exact fi [yt,.lend _ _ _ _ [0] (e_is0 (cmp:=cmp))] (by kernel_rfl) (by kernel_rfl)
theorem e_sf0:PureT PP 36 [.rw TCl 35 []] [.ow 0,.cl cmp []] D0:=
 trT [cl e_blen0,.lend _ _ _ _ [0] (e_pdq0 (cmp:=cmp))] (by kernel_rfl)
/-- A list in an order. -/
def srt (f:CQ→CQ→Int) (L:List CQ):List CQ:=L.mergeSort fun a b=>decide (f a b≤0)
theorem srt_perm (f:CQ→CQ→Int) (L:List CQ):(srt f L).Perm L:=List.mergeSort_perm _ _
theorem srt_pair (h:Cmp3 f) (L:List CQ):(srt f L).Pairwise fun a b=>f a b≤0:=by
 have:=List.pairwise_mergeSort (le:=fun a b=>decide (f a b≤0)) (fun a b c h1 h2=>decide_eq_true (h.tr a b c (of_decide_eq_true h1) (of_decide_eq_true h2))) (fun a b=>by
  have:=h.neg a b
  simp only[Bool.or_eq_true,decide_eq_true_eq]
  omega) L
 exact this.imp fun h=>of_decide_eq_true h
theorem srt_mem (f:CQ→CQ→Int) {L:List CQ} {q:CQ}:q∈srt f L↔q∈L:=(srt_perm f L).mem_iff
theorem aE_:∀ w,(isAgg TCl).run PP w= .ok true w:=fun _=>by kernel_rfl
theorem zE_:∀ w,(Go.sizeOf TCl).run PP w= .ok 35 w:=fun _=>by kernel_rfl
theorem dQ_ok (q:CQ):(dQ q).length=35∧(dQ q).all one=true:=by
 have:=dC_ok [q.cm] (dC q.cm) (by simp)
 exact this
theorem e_sort (h:Cmp3 f) (hcmp:∀ q r,Sq q→Sq r→Pure PP cmp [.ag (dQ q),.ag (dQ r)] (ni (f q r))) (L:List CQ) (hL:∀ q∈L,Sq q) (ht:∀ a∈L,∀ b∈L,f a b=0→a=b) (hn:L.length<1000000):
  PureT PP 36 [.rw TCl 35 (L.map dQ)] [.ow 0,.cl cmp []] (.io 1 [.rw TCl 35 ((srt f L).map dQ)] (.tu [])):=by
 by_cases h0:L=[]
 · subst h0
   have:srt f []=[]:=List.eq_nil_of_length_eq_zero (by rw[(srt_perm f []).length_eq];rfl)
   rw[this]
   exact e_sf0
 · have hneg:=h.neg
   refine e_sortG (ρ:=renS) (T:=TCl) (z:=35) (db:=dQ) (okb:=Sq) (cf:=f) laS (okF_of (by kernel_rfl)) rfl aE_ zE_ (fun c _=>(dQ_ok c).1) (fun c _=>(dQ_ok c).2) (by omega) hcmp (fun x _=>by rw[h.refl];omega) (fun x y u _ _ _ a b=>h.lt_le a (by omega)) (fun x y u _ _ _ a b c=> ?_) L (srt f L) hL (List.length_pos_iff.2 h0) (srt_perm f L) ((srt_pair h L).imp fun{a b} k=> ?_) (fun a ha b hb k1 k2=>ht a ha b hb (by have:=hneg a b;omega)) hn
   · have h1:=hneg x y
     have h2:=hneg y u
     have h3:=h.tr u y x (by omega) (by omega)
     have h4:=hneg x u
     omega
   · have:=hneg a b
     omega
theorem e_sort1 (L:List CQ) (hL:∀ q∈L,Sq q) (hn:L.length<1000000):PureT PP 36 [.rw TCl 35 (L.map dQ)] [.ow 0,.cl 37 []] (.io 1 [.rw TCl 35 ((srt cmp1 L).map dQ)] (.tu [])):=
 e_sort cmp1_cmp (fun q r hq hr=>e_cmp1 hq hr) L hL (fun a ha b hb=>cmp1_eq (hL a ha) (hL b hb)) hn
theorem e_sort2 (L:List CQ) (hL:∀ q∈L,Sq q) (ht:∀ a∈L,∀ b∈L,a.cm.nm=b.cm.nm→a=b) (hn:L.length<1000000):PureT PP 36 [.rw TCl 35 (L.map dQ)] [.ow 0,.cl 45 []] (.io 1 [.rw TCl 35 ((srt cmp2 L).map dQ)] (.tu [])):=
 e_sort cmp2_cmp (fun q r hq hr=>e_compare q.cm r.cm) L hL (fun a ha b hb k=>ht a ha b hb (cmp2_nm k)) hn
end
end Go.Proofs.YtfdfbenejkmnlaaGreatDoor.E.Ca
namespace Go.Proofs.YtfdfbenejkmnlaaGreatDoor.E
open Go.RowKit
set_option linter.unusedVariables false
set_option linter.unusedSimpArgs false
section
variable {P:Program} {w:World}
def mkAq (T:TypeId) (xs:List Operand):Op:= .call {callee:= .builtin .append,args:= #[xs.getD 0 (.tmp 0),xs.getD 1 (.tmp 0)],argTypes:= #[T,T]}
def apO (T:TypeId) (o:Oper):Oper:={o with op:=mkAq T [.tmp 0,.tmp 1],guard:=none}
noncomputable def apS (b j:Nat) (x:HO) (l2:List (List V)):St:=⟨[.ow b,.sl l2],(List.replicate j HO.dead).set b x⟩
theorem x_apq {T e b j n bytes N:Nat} {l l2 l':List (List V)} (hT:P.underlying T=some (.slice e)) (hap:apT P e=some (n,bytes)) (hbj:b<j) (happ:l++l2=l') (h0:0<l2.length) (hn:l'.length≤N) (hlim:apLim N bytes=true) (hz:∀ cs∈l2,cs.length=n∧cs.all one=true):
  Ext P (mkAq T) [.ow b,.sl l2] [(b,.rw e n l)] [(j,.dead),(b,.dead)] (.sl l'):=by
 intro B M h m w a o xs ho K hl hr hrd hws
 obtain⟨x,y,rfl⟩:=two_of hl
 have hx:=hr 0 x _ rfl rfl
 have hy:=hr 1 y _ rfl rfl
 have hb:h b= .rw e n l:=hrd (b,.rw e n l) (List.mem_singleton.2 rfl)
 obtain⟨hj1,hj2⟩:=hws j (by simp) (by simp;omega)
 let a':Act:={a with tmps:= #[a.eval x,a.eval y]}
 have hlen:(apS b j (.rw e n l) l2).h.length=j:=by simp[apS]
 have hho:(apS b j (.rw e n l) l2).ho b= .rw e n l:=by simp[apS,St.ho,hbj]
 have e0 : aop P (apO T o) (apS b j (.rw e n l) l2) ([.aps l l2 l' N n happ h0 hn hz] : List (Fa P)) = some ⟨.ow j, [(j, .rw e n l'), (b, .dead)], [b], [], [([.sl l, .sl l2], [.sl l, .sl l2])]⟩ := by
  have n1:Nat.beq T T=true:=Nat.beq_refl T
  have n2:Nat.beq n n=true:=Nat.beq_refl n
  have n3:Nat.beq e e=true:=Nat.beq_refl e
  have s1:(apS b j (.rw e n l) l2).evT P T (.tmp 0)= .ow b:=rfl
  have s2:(apS b j (.rw e n l) l2).ev (.tmp 1)= .sl l2:=rfl
  show (match P.underlying T with
       |some (.slice e)=>match Nat.beq T T,apT P e with
         |true,some (n,bytes)=>appV (apS b j (.rw _ _ l) l2) e n bytes ((apS b j (.rw _ _ l) l2).evT P T (.tmp 0)) ((apS b j (.rw _ _ l) l2).ev (.tmp 1)) _
         |_,_=>none
       |_=>none)=_
  rw[hT]
  simp only[n1,hap,s1,s2,appV,hho,n2,n3,hlim,hlen,Bool.and_self]
 have hop:Opd w (Av M h m) m (apO T o) a' (apS b j (.rw e n l) l2):=by
  refine⟨fun t ht=> ?_,K.gl⟩
  have:t=0∨t=1:=by simpa[looks,apO,mkAq,Op.operands,Call.operands]using ht
  rcases this with rfl|rfl
  · exact hx
  · exact hy
 have G:=append_ok (o:=apO T o) (a:=a') K rfl rfl e0 (fun p hp=>by rw[List.mem_singleton.1 hp]) hop (fun c hc=>by rw[List.mem_singleton.1 hc,hb,hho]) (fun c hc hlt=>by
   rw[hlen]at hlt
   simp only[List.map_cons,List.map_nil,List.mem_cons,List.not_mem_nil,or_false]at hc
   rcases hc with rfl|rfl
   · omega
   · rw[hb,hho]) (fun c hc hle=>by
   rw[hlen]at hle
   simp only[List.map_cons,List.map_nil,List.mem_cons,List.not_mem_nil,or_false]at hc
   rcases hc with rfl|rfl
   · exact⟨hj1,hj2⟩
   · omega)
 have heq:execOp a'.eval (apO T o)=execOp a.eval o:=by
  have e1:a'.eval (.tmp 0)=a.eval x:=rfl
  have e2:a'.eval (.tmp 1)=a.eval y:=rfl
  simp[execOp,apO,mkAq,ho,resolve,e1,e2,invoke,builtin]
 have G2:Exec P o a w (Post B M h m w [(j,.rw e n l'),(b,.dead)] (.ow j)):=by
  unfold Goal_ Exec at G
  rw[heq]at G
  exact G
 refine Exec.imp G2 fun u w'=> ?_
 rintro ⟨m',K',hr',hmo,hbl,hn'⟩
 have hu:upds h [(j,HO.rw e n l'),(b,.dead)]=upd (upd h b .dead) j (.rw e n l'):=rfl
 have hk:upd (upd (upd h b .dead) j (.rw e n l')) j .dead=upds h [(j,.dead),(b,.dead)]:=by
  funext c
  by_cases hc:c=j
  · subst hc;rw[upd_eq];exact upd_eq.symm
  · rw[upd_ne hc,upd_ne hc];exact(upd_ne hc).symm
 rw[hu]at K' hr' hmo
 have kk:Ok B M (upds h [(j,.dead),(b,.dead)]) m' w':=by rw[←hk];exact K'.kill j
 have mk:Mo w' (Av M (upd (upd h b .dead) j (.rw e n l')) m') m' w' (Av M (upds h [(j,.dead),(b,.dead)]) m') m':=by rw[←hk];exact Mo.kill
 have hy2:=exp_rep (h0:=fun _=> .rw e n l') (A':=Av M (upds h [(j,.dead),(b,.dead)]) m') K' (fun g e=>(mk.av g e).elim id fun h=>absurd (kk.av_lt e) (by omega)) 2 (.ow j) (.sl l') [j] rfl (fun c hc=>by
   obtain rfl:=List.mem_singleton.1 hc
   refine⟨upd_eq,fun v g h1 h2=> ?_⟩
   have:=kills_out (ks:=[c]) K' (List.mem_singleton.2 rfl) (by rw[upd_eq];rfl) h1 h2
   rw[show upds (upd (upd h b .dead) c (.rw e n l')) (kills [c])=upds h [(c,.dead),(b,.dead)]from hk]at this
   exact this) _ hr'
 exact⟨m',kk,hy2.mo Mo.up,hmo.trans mk,hbl,fun c hc=>by simpa using hn' c hc⟩
/-- The same, where what is appended may have no elements. -/
theorem x_apz {T e b j n bytes N:Nat} {l l2 l':List (List V)} (hT:P.underlying T=some (.slice e)) (hap:apT P e=some (n,bytes)) (hbj:b<j) (happ:l++l2=l') (hn:l'.length≤N) (hlim:apLim N bytes=true) (hz:∀ cs∈l2,cs.length=n∧cs.all one=true):
  Ext P (mkAq T) [.ow b,.sl l2] [(b,.rw e n l)] [(j,.dead),(b,.dead)] (.sl l'):=by
 by_cases h0:0<l2.length
 · exact x_apq hT hap hbj happ h0 hn hlim hz
 have hl2:l2=[]:=List.eq_nil_of_length_eq_zero (by omega)
 subst hl2
 rw[List.append_nil]at happ
 subst happ
 intro B M h m w a o xs ho K hl hr hrd hws
 obtain⟨x,y,rfl⟩:=two_of hl
 have hx:=hr 0 x _ rfl rfl
 have hy:=hr 1 y _ rfl rfl
 have hb:h b= .rw e n l:=hrd (b,.rw e n l) (List.mem_singleton.2 rfl)
 obtain⟨hj1,hj2⟩:=hws j (by simp) (by simp;omega)
 simp only[mkAq,List.getD_cons_zero,List.getD_cons_succ]at ho
 obtain⟨i,z,i1,i2,i3,i4,i5,i6⟩:=apT_of hap
 have hs:szT P e=some i.size:=by unfold szT;rw[i1];rfl
 obtain⟨v1,xs1,h1,h2,h3,h4,h5⟩:=K.rw b e n l hb
 have hkd:upd h b .dead=upds h [(j,.dead),(b,.dead)]:=by
  funext c
  show _=upd (upd h b .dead) j .dead c
  by_cases hc:c=j
  · subst hc;rw[upd_eq,upd_ne (by omega),hj1]
  · rw[upd_ne hc]
 have kk:Ok B M (upds h [(j,.dead),(b,.dead)]) m w:=by rw[←hkd];exact K.kill b
 have mk:Mo w (Av M h m) m w (Av M (upds h [(j,.dead),(b,.dead)]) m) m:=by rw[←hkd];exact Mo.kill
 have hy2:=exp_rep (h0:=fun _=> .rw e n l) (A':=Av M (upds h [(j,.dead),(b,.dead)]) m) K (fun g e=>(mk.av g e).elim id fun h=>absurd (kk.av_lt e) (by omega)) 2 (.ow b) (.sl l) [b] rfl (fun c hc=>by
   obtain rfl:=List.mem_singleton.1 hc
   refine⟨hb,fun v g h1 h2=> ?_⟩
   have:=kills_out (ks:=[c]) K (List.mem_singleton.2 rfl) (by rw[hb];rfl) h1 h2
   rw[show upds h (kills [c])=upds h [(j,.dead),(c,.dead)]from hkd]at this
   exact this) _ hx
 generalize hu:a.eval x=u at hx hy2
 generalize hv:a.eval y=v at hy
 cases hx with
 |ow _ _ ad n' c hm=>
  rw[h1]at hm
  injection hm with hm
  subst hm
  have hle:n'≤c:=by
   rcases h3.2 with⟨e1,e2⟩|⟨g,cap,cur,e1,_,_,e2,_⟩
   · injection e1 with e1 e3 e4;omega
   · injection e1 with e1 e3 e4;omega
  cases hy with
  |sl _ ad2 b2 o2 c2 z2 _ us g1 g2 g3 g4 g5 g6=>
   refine Exec.val (u:= .slice ad n' c) (w':=w) ?_ ⟨m,kk,hy2.mo Mo.up,mk,Bl.refl _ _,fun c hc=> .inl hc⟩
   have:=append_none (P:=P) (w:=w) (ty:=o.type) (ad:=ad) (X:=ad2) (c2:=c2) hT hs hle
   simp[execOp,ho,resolve,invoke,builtin,hu,hv,this]
end
end Go.Proofs.YtfdfbenejkmnlaaGreatDoor.E
