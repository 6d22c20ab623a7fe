/-
 CLAIMS: claim.Sort.
-/
import Derived.Test.YtfdfbenejkmnlaaGreatDoorCaS
import Derived.Test.YtfdfbenejkmnlaaGreatDoorEwX
namespace Go.Proofs.YtfdfbenejkmnlaaGreatDoor.E
open Go.RowKit
set_option linter.unusedVariables false
set_option linter.unusedSimpArgs false
section
variable {P:Program}
def mkIt (T:TypeId) (xs:List Operand):Op:= .indexAddr T (xs.getD 0 (.tmp 0)) (xs.getD 1 (.tmp 0))
/-- An element's address in a part of a row. -/
theorem x_iot {T e:TypeId} (hT:P.underlying T=some (.slice e)) {z:Nat} (hs:szT P e=some z) {b i n k U:Nat} {l:List (List V)} (hk:i+k<n):Ext P (mkIt T) [.os b z i n,.k (.int .i64 (k:Int))] [(b,.rw U z l)] [] (.rp b z (i+k) 0):=by
 intro B M h m w a o xs ho K hl hr hrd _
 obtain⟨x,y,rfl⟩:=two_of hl
 have hx:=hr 0 x _ rfl rfl
 have hy:=Rep.k_inv (hr 1 y _ rfl rfl)
 have hb:h b= .rw U z l:=hrd (b,.rw U z l) (List.mem_singleton.2 rfl)
 obtain⟨v,xs1,q1,q2,q3,q4,q5⟩:=K.rw b U z l hb
 generalize hu:a.eval x=u at hx
 cases hx with
 |os _ _ _ _ _ g n' c hm h1 h2=>
  simp only[mkIt,List.getD_cons_zero,List.getD_cons_succ]at ho
  rw[hm]at q1
  injection q1 with q1
  subst q1
  have hc:c≠i:=by
   rcases q3.2 with⟨e1,e2⟩|⟨g',cap,cur,e1,_,_,e2,_⟩
   · cases e1
   · injection e1 with e1 e3 e4
     omega
  rw[if_neg hc]at hu
  refine Exec.val (u:= .pointer (some ⟨g,(i+k)*z+0,none⟩)) (w':=w) ?_ (.same K (.rp _ b z (i+k) 0 g _ _ hm))
  have hk2:k<n - i:=by omega
  simp[execOp,ho,Instr.indexAt,hu,hy,asIntOf,run_under hT,run_size hs,hk2,Addr.add_lit,Nat.add_mul]
theorem flat_idx2 {zz:Nat} (h0:0<zz):∀ {ls:List (List V)},(∀ cs∈ls,cs.length=zz)→∀ {i j:Nat} {cs:List V} {y:V},ls[i]? =some cs→cs[j]? =some y→ls.flatten[i*zz+j]? =some y
 |[],_,i,j,cs,y,h1,_=>by simp at h1
 |x::ls,hz,0,j,cs,y,h1,h2=>by
  injection h1 with h1
  subst h1
  rw[List.flatten_cons,Nat.zero_mul,Nat.zero_add,List.getElem?_append_left (List.getElem?_eq_some_iff.1 h2).1]
  exact h2
 |x::ls,hz,i+1,j,cs,y,h1,h2=>by
  have hx:=hz x (List.mem_cons_self ..)
  have:=flat_idx2 h0 (fun c hc=>hz c (List.mem_cons_of_mem _ hc)) (i:=i) (j:=j) (ls:=ls) h1 h2
  rw[List.flatten_cons,List.getElem?_append_right (by rw[hx,Nat.add_mul];omega),hx,show(i+1)*zz+j - zz=i*zz+j by rw[Nat.add_mul];omega]
  exact this
def mkCl (ts:Array TypeId) (xs:List Operand):Op:= .call {callee:= .builtin .clear,args:= #[xs.getD 0 (.tmp 0)],argTypes:=ts}
theorem zc_get {zc:Array Value} {n j:Nat} (h:j<n*zc.size):(Builtin.zeroCells zc n).toList.getD j undef=zc.getD (j % zc.size) undef:=by
 have hp:0<zc.size:=by
  rcases Nat.eq_zero_or_pos zc.size with e|e
  · rw[e]at h;omega
  · exact e
 have hlt:=Nat.mod_lt j hp
 rw[getD_toList]
 unfold Builtin.zeroCells
 rw[Array.getD_eq_getD_getElem?,Array.getElem?_map,Array.getElem?_range,if_pos h]
 simp[Array.getD_eq_getD_getElem?,hlt]
/-- The end of a row is cleared. -/
theorem x_clr {t e b k n U z:Nat} {l l':List (List V)} {zv:Value} {zl:List V} (hd:P.underlying t=some (.slice e)) (hz:zeroV P e=some (zv,zl)) (hone:zv.cells.toList.all Value.oneCell'=true) (hzz:zl.length=z) (z0:0<z) (hn:l.length=n) (hk:k<n) (hl':l.take k++List.replicate (n - k) zl=l'):
  Ext P (mkCl #[t]) [.os b z k n] [(b,.rw U z l)] [(b,.rw U z l')] (.tu []):=by
 intro B M h m w a op xs ho K hl hr hrd _
 obtain⟨x,rfl⟩:∃ x,xs=[x]:=by
  match xs,hl with
  |[x],_=>exact⟨x,rfl⟩
 have hx:=hr 0 x _ rfl rfl
 have hb:h b= .rw U z l:=hrd (b,.rw U z l) (List.mem_singleton.2 rfl)
 obtain⟨v,xs1,q1,q2,q3,q4,q5⟩:=K.rw b U z l hb
 simp only[mkCl,List.getD_cons_zero]at ho
 generalize hu:a.eval x=u at hx
 cases hx with
 | os _ _ _ _ _ g n' c hm h1 h2 =>
  rw[hm]at q1
  injection q1 with q1
  subst q1
  obtain⟨q3a,q3b⟩:=q3
  obtain⟨g',cap,cur,e1,hB,hh,k3,k0,hsz,htk⟩:∃ g' cap cur,Value.slice (some ⟨g,0,none⟩) n' c= .slice (some ⟨g',0,none⟩) l.length cap∧¬B g'∧w.heap[g']? =some (.cells cur U (0,0))∧l.length≤cap∧cap≤maxLen∧cur.size=cap*z∧cur.toList.take (l.length*z)=xs1:=by
   rcases q3b with⟨e1,e2⟩|h
   · cases e1
   · exact h
  injection e1 with e1 e3 e4
  injection e1 with e1
  injection e1 with e1
  subst e1;subst e4
  have hck:c≠k:=by omega
  rw[if_neg hck]at hu
  obtain⟨z1,z2,z3⟩:=zero_ok (w:=w) (A:=Av M h m) (m:=no) hz
  have hzs:zv.cells.size=z:=by rw[z2,hzz]
  let news:List Value:=(Builtin.zeroCells zv.cells (n - k)).toList
  have hnl:news.length=(n - k)*z:=by simp only[news,Array.length_toList,size_zeroCells,hzs]
  have hnk:k*z+(n - k)*z=n*z:=by rw[←Nat.add_mul];congr 1;omega
  have hcap:n*z≤c*z:=Nat.mul_le_mul_right _ (by omega)
  have hnone:∀ v∈news,v.oneCell'=true:=fun v hv=>by
   obtain⟨j,hj⟩:=List.getElem?_of_mem hv
   have hjl:j<(n - k)*zv.cells.size:=by rw[hzs,←hnl];exact(List.getElem?_eq_some_iff.1 hj).1
   have e:=zc_get hjl
   rw[List.getD_eq_getElem?_getD,show(Builtin.zeroCells zv.cells (n - k)).toList[j]? =some v from hj,Option.getD_some]at e
   have hp:0<zv.cells.size:=by omega
   have hlt:=Nat.mod_lt j hp
   rw[e,Array.getD_eq_getD_getElem?,Array.getElem?_eq_getElem hlt]
   exact List.all_eq_true.1 hone _ (by simp)
  obtain⟨w',cs',p1,p2,p3,p4,p5,p6,p7⟩:=run_storeCells (P:=P) (g:=g) (o:=k*z) (T:=U) news 0 w cur hnone hh (by rw[hnl,Nat.add_zero,hsz];omega)
  have hown:(h b).own=true:=by rw[hb];rfl
  have hll:l'.length=n:=by rw[←hl',List.length_append,List.length_take,List.length_replicate];omega
  have hl'z:∀ cs∈l',cs.length=z:=fun cs hcs=>by
   rw[←hl',List.mem_append]at hcs
   rcases hcs with hcs|hcs
   · exact q2 cs (List.mem_of_mem_take hcs)
   · rw[(List.mem_replicate.1 hcs).2];exact hzz
  have hxl:xs1.length=n*z:=by rw[q3a,hn]
  have hxget:∀ j,j<k*z→(xs1.take (k*z)++news).getD j undef=xs1.getD j undef:=fun j hj=>by
   rw[List.getD_eq_getElem?_getD,List.getElem?_append_left (by rw[List.length_take];omega),List.getElem?_take,if_pos hj,List.getD_eq_getElem?_getD]
  have hnget:∀ j,k*z≤j→(xs1.take (k*z)++news).getD j undef=news.getD (j - k*z) undef:=fun j hj=>by
   rw[List.getD_eq_getElem?_getD,List.getElem?_append_right (by rw[List.length_take];omega),List.length_take,Nat.min_eq_left (by omega),List.getD_eq_getElem?_getD]
  have hcx:∀ j,j<n*z→cur.getD j undef=xs1.getD j undef:=fun j hj=>by
   rw[←htk,hn,List.getD_eq_getElem?_getD,List.getElem?_take,if_pos hj,Array.getElem?_toList,Array.getD_eq_getD_getElem?]
  have hcs':∀ j,j<n*z→cs'.getD j undef=(xs1.take (k*z)++news).getD j undef:=fun j hj=>by
   rcases Nat.lt_or_ge j (k*z)with hj2|hj2
   · rw[p5 j (by omega),hxget j hj2,hcx j hj]
   · have:=p7 (j - k*z) (by omega)
     rw[show k*z+0+(j - k*z)=j by omega]at this
     rw[this,hnget j hj2]
  obtain ⟨t1, t2⟩ := K.turn (w' := w') (x := .rw U z l') (g := g) hown hm rfl p2 (fun _ _ e => by cases e) (fun T' z' l2 e => by
   injection e with e1 e2 e3
   subst e1;subst e2;subst e3
   refine⟨xs1.take (k*z)++news,hl'z,⟨by rw[List.length_append,List.length_take,hll,hnl];omega,.inr ⟨g,c,cs',by rw[hll,hn]at*;rw[←e3],hB,p3,by omega,k0,by rw[p4,hsz], ?_⟩⟩,fun u hu=> ?_,fun j y hy=> ?_⟩
   · rw[hll]
     apply List.ext_getElem?
     intro j
     rw[List.getElem?_take]
     split
     · rename_i hj
       have:=hcs' j hj
       rw[←getD_toList,List.getD_eq_getElem?_getD,List.getD_eq_getElem?_getD]at this
       rw[List.getElem?_eq_getElem (by simp[p4,hsz];omega),List.getElem?_eq_getElem (by rw[List.length_append,List.length_take];omega)]at this⊢
       simpa using this
     · rename_i hj
       rw[List.getElem?_eq_none (by rw[List.length_append,List.length_take];omega)]
   · rcases List.mem_append.1 hu with hu|hu
     · exact q4 u (List.mem_of_mem_take hu)
     · exact hnone u hu
   · have hjn : j < n * z := by
      have:=(List.getElem?_eq_some_iff.1 hy).1
      rwa [flat_len hl'z,hll]at this
     obtain⟨cs,k1,k2⟩:=flat_inv z0 hl'z hy
     rcases Nat.lt_or_ge j (k*z)with hj2|hj2
     · rw[hxget j hj2]
       refine q5 j y ?_
       have hjk:j / z<k:=Nat.div_lt_of_lt_mul (by rw[Nat.mul_comm];exact hj2)
       rw[←hl',List.getElem?_append_left (by rw[List.length_take];omega),List.getElem?_take,if_pos hjk]at k1
       have:=flat_idx2 z0 q2 k1 k2
       rwa [Nat.div_add_mod']at this
     · rw [hnget j hj2]
       have hjk:k≤j / z:=(Nat.le_div_iff_mul_le z0).2 hj2
       rw[←hl',List.getElem?_append_right (by rw[List.length_take];omega),List.getElem?_replicate]at k1
       split at k1
       · injection k1 with k1
         subst k1
         rw[zc_get (by rw[hzs];omega),hzs]
         have hm2:(j - k*z) % z=j % z:=by
          conv=>rhs;rw[show j=j - k*z+k*z by omega,Nat.add_mul_mod_self_right]
         rw[hm2]
         exact z3 _ _ k2
       · cases k1) rfl
  refine Exec.val (u:= .tuple #[]) (w':=w') ?_ ⟨m,t1,.tu _ #[] [] rfl fun j x hx=>by simp at hx,t2,p2.below hB,fun c hc=> .inl hc⟩
  have hnk0:n - k≠0:=by omega
  have hlo:(Builtin.clear_ #[t] op.type #[a.eval x]).run P w= .ok (.tuple #[]) w':=by
   rw[hu]
   have p1':=p1
   obtain⟨q,hq⟩:∃ q,n - k=q+1:=⟨n - k - 1,by omega⟩
   simp only[news]at p1'
   simp only[Builtin.clear_]
   rw[hq]at p1'⊢
   simp[run_under hd,z1,p1']
  simp[execOp,ho,resolve,invoke,builtin,hlo]
def mkLn (ts:Array TypeId) (xs:List Operand):Op:= .call {callee:= .builtin .len,args:= #[xs.getD 0 (.tmp 0)],argTypes:=ts}
/-- The length of a part of a row. -/
theorem x_len {T e:TypeId} (hT:P.underlying T=some (.slice e)) {b z i n:Nat}:Ext P (mkLn #[T]) [.os b z i n] [] [] (.k (.int .i64 ((n - i:Nat):Int))):=by
 intro B M h m w a o xs ho K hl hr hrd _
 obtain⟨x,rfl⟩:∃ x,xs=[x]:=by
  match xs,hl with
  |[x],_=>exact⟨x,rfl⟩
 have hx:=hr 0 x _ rfl rfl
 simp only[mkLn,List.getD_cons_zero]at ho
 generalize hu:a.eval x=u at hx
 cases hx with
 |os _ _ _ _ _ g n' c hm h1 h2=>
  refine Exec.val (u:= .int .i64 ((n - i:Nat):Int)) (w':=w) ?_ (.same K (.k _ _))
  have hlo:(Builtin.len_ #[T] o.type #[a.eval x]).run P w= .ok (.int .i64 ((n - i:Nat):Int)) w:=by
   rw[hu]
   simp[Builtin.len_,run_under hT,Builtin.lenOf,goInt]
  simp[execOp,ho,resolve,invoke,builtin,hlo]
end
end Go.Proofs.YtfdfbenejkmnlaaGreatDoor.E
namespace Go.Proofs.YtfdfbenejkmnlaaGreatDoor.E.Ca
open Go.RowKit
set_option linter.unusedVariables false
set_option linter.unusedSimpArgs false
section
variable {q r:CQ} {L:List CQ} {i k n:Nat}
theorem rfs_two (l:List (Int×Int)):∀ cs∈rfs l,cs.length=2∧cs.all one=true:=fun cs h=>by
 unfold rfs at h
 obtain⟨p,_,rfl⟩:=List.mem_map.1 h
 exact⟨rfl,rfl⟩
theorem e_cloneN (l:List (Int×Int)) (hl:l.length≤1000):Pure PP 68 [.sl (rfs l)] (.sl (rfs l)):=by
 cases l with
 |nil=>
   refine Pure.em (pre:=[]) (post:=[]) fun ad c=> ?_
   cases ad with
   |none=>exact tr [yt] (by kernel_rfl)
   |some q=>exact tr [nf,.ext (some 7) _ _ _ _ _ (x_apk (T:= 30) (e:= 54) (n0:=2) (by kernel_rfl) (by kernel_rfl) (b:=0) (U:= 54) (z:=2) (l:=[]) (X:=some q) (c2:=c))] (by kernel_rfl)
 |cons x r=>
  have hz:=rfs_two (x::r)
  have hlen:(rfs (x::r)).length≤1000:=by unfold rfs;rw[List.length_map];exact hl
  exact tr [.ext (some 4) _ _ _ _ _ (x_eqnil (T:= 30) (e:= 54) (yT:= 30) (by kernel_rfl) (by kernel_rfl) (E.nm x) (rfs r)),nf,.aps [] (rfs (x::r)) (rfs (x::r)) 1000 2 rfl (by unfold rfs;simp) hlen hz] (by kernel_rfl)
theorem e_copied (c:CM) (hl:c.refs.length≤1000):Pure PP 35 [.ag (dC c)] (.ag (dC c)):=by
 have h:=e_cloneN c.refs hl
 exact tr [cl h] (by kernel_rfl)
def sameN (c d:CM):Bool:=decide (c.nm=d.nm)
theorem e_eq2 (c d:CM):Pure PP 44 [.ag (dC c),.ag (dC d)] (bo (sameN c d)):=by
 have n1:=e_name c
 have n2:=e_name d
 exact tr [cl n1,cl n2,fEq c.nm d.nm] (by kernel_rfl)
end
end Go.Proofs.YtfdfbenejkmnlaaGreatDoor.E.Ca
namespace Go.Proofs.YtfdfbenejkmnlaaGreatDoor.E.Ca
open Go.RowKit
set_option linter.unusedVariables false
set_option linter.unusedSimpArgs false
section
variable {q r:CQ} {L C:List CQ} {i k n:Nat}
/-- The first of each run of one name, of the first n. -/
def cpN (L:List CQ):Nat→List CQ
 |0=>[]
 |n+1=>match L[n]?,(if n=0 then none else L[n - 1]?)with
   |some q,some r=>if q.cm.nm=r.cm.nm then cpN L n else cpN L n++[q]
   |some q,none=>cpN L n++[q]
   |none,_=>cpN L n
def cpt (L:List CQ):List CQ:=cpN L L.length
theorem cp_one (h:L[0]? =some q):cpN L 1=[q]:=by
 unfold cpN
 rw[h]
 rfl
theorem cp_same (hk:1≤k) (h:L[k]? =some q) (h1:L[k - 1]? =some r) (e:q.cm.nm=r.cm.nm):cpN L (k+1)=cpN L k:=by
 conv=>lhs;unfold cpN
 rw[h,if_neg (by omega),h1]
 exact if_pos e
theorem cp_new (hk:1≤k) (h:L[k]? =some q) (h1:L[k - 1]? =some r) (e:¬q.cm.nm=r.cm.nm):cpN L (k+1)=cpN L k++[q]:=by
 conv=>lhs;unfold cpN
 rw[h,if_neg (by omega),h1]
 exact if_neg e
theorem cp_len1 (L:List CQ) (k:Nat):(cpN L (k+1)).length≤(cpN L k).length+1:=by
 conv=>lhs;unfold cpN
 split<;>try split
 all_goals simp
theorem cp_len (L:List CQ) (k:Nat):∀ m,(cpN L (k+m)).length≤(cpN L k).length+m
 |0=>Nat.le_refl _
 |m+1=>by
  have:=cp_len L k m
  have:=cp_len1 L (k+m)
  rw[show k+(m+1)=k+m+1 by omega]
  omega
def rC (C L:List CQ):List CQ:=C++L.drop C.length
theorem rC_at (h:C.length≤i):(rC C L)[i]? =L[i]? :=by
 unfold rC
 rw[List.getElem?_append_right h,List.getElem?_drop,show C.length+(i - C.length)=i by omega]
theorem rC_set (h:C.length<L.length) (q:CQ):(rC C L).set C.length q=rC (C++[q]) L:=by
 unfold rC
 rw[List.set_append_right _ _ (Nat.le_refl _),Nat.sub_self,List.drop_eq_getElem_cons h,List.set_cons_zero,List.append_assoc,List.length_append]
 rfl
theorem rC_len (h:C.length≤L.length):(rC C L).length=L.length:=by
 unfold rC
 rw[List.length_append,List.length_drop]
 omega
theorem dQ_at (h:L[i]? =some q):(L.map dQ)[i]? =some (dQ q):=by rw[List.getElem?_map,h];rfl
noncomputable abbrev fC:Func:=fnOf PP 43
noncomputable def cA_ (L:List CQ) (k:Nat):St:=at_ fC [(0,.ow 0),(1,.cl 44 []),(5,ni k)] [.rw TCl 35 (L.map dQ)]
noncomputable def cB_ (R:List CQ) (k0 n k k2:Nat):St:=at_ fC [(0,.ow 0),(1,.cl 44 []),(5,ni k),(6,.os 0 35 k0 n),(7,ni k2)] [.rw TCl 35 (R.map dQ)]
abbrev cD (L:List CQ):RD:= .io 1 [.rw TCl 35 (L.map dQ)] (.ow 0)
abbrev cE (L:List CQ):RD:= .io 1 [.dead,.rw TCl 35 ((cpt L).map dQ)] (.ow 1)
theorem sameN_t {c d:CM} (h:c.nm=d.nm):sameN c d=true:=decide_eq_true h
theorem sameN_f {c d:CM} (h:¬c.nm=d.nm):sameN c d=false:=decide_eq_false h
theorem xit {b i n k:Nat} {l:List (List V)} (hk:i+k<n):Ext PP (mkIt 23) [.os b 35 i n,ni (k:Int)] [(b,.rw TCl 35 l)] [] (.rp b 35 (i+k) 0):=x_iot (e:=TCl) (by kernel_rfl) (by kernel_rfl) hk
theorem xln {b i n:Nat}:Ext PP (mkLn #[23]) [.os b 35 i n] [] [] (ni ((n - i:Nat):Int)):=x_len (e:=TCl) (by kernel_rfl)
end
end Go.Proofs.YtfdfbenejkmnlaaGreatDoor.E.Ca
namespace Go.Proofs.YtfdfbenejkmnlaaGreatDoor.E.Ca
open Go.RowKit
set_option linter.unusedVariables false
set_option linter.unusedSimpArgs false
section
variable {q r:CQ} {L C:List CQ} {i k n:Nat}
noncomputable def zvC:Value:=match zeroV PP TCl with
 |some p=>p.1
 |none=>undef
noncomputable def zlC:List V:=match zeroV PP TCl with
 |some p=>p.2
 |none=>[]
theorem zC_ok:zeroV PP TCl=some (zvC,zlC):=by kernel_rfl
theorem zC_len:zlC.length=35:=by kernel_rfl
theorem zC_one:zvC.cells.toList.all Value.oneCell'=true:=by kernel_rfl
theorem xcl {b k n:Nat} {l l':List (List V)} (hn:l.length=n) (hk:k<n) (hl':l.take k++List.replicate (n - k) zlC=l'):Ext PP (mkCl #[23]) [.os b 35 k n] [(b,.rw TCl 35 l)] [(b,.rw TCl 35 l')] (.tu []):=x_clr (e:=TCl) (by kernel_rfl) zC_ok zC_one zC_len (by omega) hn hk hl'
theorem cp_end (hL:L.length=n) (k0 k2:Nat) (h:k0+k2=n) (hn:n<1000000) (hC:C.length<n) (hc:cpt L=C):
  Gd PP 43 (cE L) (lp fC 1) (cB_ (rC C L) k0 n C.length k2):=by
 have lt:decide ((k2:Int)<((n - k0:Nat):Int))=false:=decide_eq_false (by omega)
 have rl:((rC C L).map dQ).length=n:=by rw[List.length_map,rC_len (by omega),hL]
 have tk:((rC C L).map dQ).take C.length=C.map dQ:=by
  unfold rC
  rw[List.map_append,List.take_left' (List.length_map ..)]
 have tk2:(((rC C L).map dQ).take C.length++List.replicate (n - C.length) zlC).take C.length=(cpt L).map dQ:=by
  rw[List.take_append_of_le_length (by rw[List.length_take];omega),List.take_take,Nat.min_self,tk,hc]
 have ll:C.length≤(((rC C L).map dQ).take C.length++List.replicate (n - C.length) zlC).length:=by rw[List.length_append,List.length_take];omega
 unfold cE cB_
 generalize (rC C L).map dQ=RM at*
 have cl_:=xcl (b:=0) (l:=RM) rl hC rfl
 generalize RM.take C.length++List.replicate (n - C.length) zlC=RN at*
 generalize (cpt L).map dQ=W at*
 exact fi [.ext (some 34) _ _ _ _ _ (xln (b:=0) (i:=k0) (n:=n)),na lt,.slo RM C.length RM.length ⟨by omega,by omega⟩ (by omega),.eqv 61 (.os 0 35 C.length RM.length) (.os 0 35 C.length n) (by rw[rl]),.ext none _ _ _ _ _ cl_,.trn RN W C.length tk2 ll] (by kernel_rfl) (by kernel_rfl)
/-- The second loop. -/
theorem cp_in (hL:L.length=n) (hn:n<1000000) (k0:Nat) (h0:1≤k0):∀ (m k2:Nat),k0+k2+m=n→1≤k2→(cpN L (k0+k2)).length<k0+k2→
  Gd PP 43 (cE L) (lp fC 1) (cB_ (rC (cpN L (k0+k2)) L) k0 n (cpN L (k0+k2)).length k2):=by
 intro m
 induction m with
 |zero=>
  intro k2 hm h2 hc
  refine cp_end hL k0 k2 (by omega) hn (by omega) ?_
  unfold cpt
  rw[hL,show n=k0+k2 by omega]
 |succ m cp_in=>
  intro k2 hm h2 hc
  obtain⟨q,hq⟩:∃ q,L[k0+k2]? =some q:=⟨_,List.getElem?_eq_getElem (by omega)⟩
  obtain⟨r,hr⟩:∃ r,L[k0+k2 - 1]? =some r:=⟨_,List.getElem?_eq_getElem (by omega)⟩
  have lt:decide ((k2:Int)<((n - k0:Nat):Int))=true:=decide_eq_true (by omega)
  have rl:=rC_len (C:=cpN L (k0+k2)) (L:=L) (by omega)
  have s1:=dQ_at ((rC_at (C:=cpN L (k0+k2)) (L:=L) (i:=k0+k2) (by omega)).trans hq)
  have s2:=dQ_at ((rC_at (C:=cpN L (k0+k2)) (L:=L) (i:=k0+k2 - 1) (by omega)).trans hr)
  rw[show k0+k2 - 1=k0+(k2 - 1)by omega]at s2
  have ce:=e_eq2 q.cm r.cm
  let RM:=(rC (cpN L (k0+k2)) L).map dQ
  let F:List F_:=[.ext (some 34) _ _ _ _ _ (xln (b:=0) (i:=k0) (n:=n)),ye lt,.ext (some 41) _ _ _ _ _ (xit (b:=0) (i:=k0) (n:=n) (k:=k2) (l:=RM) (by omega)),.sel _ _ _ s1,wq 45 ((k2:Int) - 1) ((k2 - 1:Nat):Int) (by omega),.ext (some 46) _ _ _ _ _ (xit (b:=0) (i:=k0) (n:=n) (k:=k2 - 1) (l:=RM) (by omega)),.sel _ _ _ s2,cl ce]
  by_cases e:q.cm.nm=r.cm.nm
  · have hs:=sameN_t e
    have nx:=cp_in (k2+1) (by omega) (by omega)
    rw[show k0+(k2+1)=k0+k2+1 by omega,cp_same (by omega) hq hr e]at nx
    have nx:=nx (by omega)
    exact .to mo_ [] [0,1,5,6,7] [0] 1 (F++[.eqv 49 (bo (!sameN q.cm r.cm)) (bo false) (by rw[hs];rfl),nf,inc 37 k2 (by omega)]) nx (by kernel_rfl)
  · have hs:=sameN_f e
    have nx:=cp_in (k2+1) (by omega) (by omega)
    rw[show k0+(k2+1)=k0+k2+1 by omega,cp_new (by omega) hq hr e]at nx
    have nx:=nx (by rw[List.length_append];simp only[List.length_cons,List.length_nil];omega)
    rw[List.length_append,←rC_set (by omega) q]at nx
    obtain⟨o,ho⟩:∃ o,(rC (cpN L (k0+k2)) L)[(cpN L (k0+k2)).length]? =some o:=⟨_,List.getElem?_eq_getElem (by omega)⟩
    have s3:=dQ_at ho
    have up:((rC (cpN L (k0+k2)) L).map dQ).set (cpN L (k0+k2)).length (dQ q)=((rC (cpN L (k0+k2)) L).set (cpN L (k0+k2)).length q).map dQ:=(List.map_set ..).symm
    exact .to mo_ [] [0,1,5,6,7] [0] 1 (F++[.eqv 49 (bo (!sameN q.cm r.cm)) (bo true) (by rw[hs];rfl),yt,.ext (some 54) _ _ _ _ _ (xit (b:=0) (i:=k0) (n:=n) (k:=k2) (l:=RM) (by omega)),.sel _ _ _ s1,.sel _ _ _ s3,.upd _ _ _ _ _ s3 up,inc 58 (cpN L (k0+k2)).length (by omega),inc 37 k2 (by omega)]) nx (by kernel_rfl)
theorem e_compact (hL : L.length = n) (hn : n < 1000000) :
  (cpt L=L∧PureT PP 43 [.rw TCl 35 (L.map dQ)] [.ow 0,.cl 44 []] (cD L))∨PureT PP 43 [.rw TCl 35 (L.map dQ)] [.ow 0,.cl 44 []] (cE L):=by
 have ml:(L.map dQ).length=n:=by rw[List.length_map,hL]
 have eln:((L.map dQ).length:Int)=(n:Int):=by rw[ml]
 by_cases h2:n<2
 · have hc:cpt L=L:=by
    match L,hL with
    |[],_=>rfl
    |[q],_=>rfl
    |_::_::_,e=>simp only[List.length_cons]at e;omega
   have lt:decide (((L.map dQ).length:Int)<2)=true:=decide_eq_true (by omega)
   refine .inl ⟨hc, ?_⟩
   unfold cD
   generalize L.map dQ=M at*
   exact trT [ye lt] (by kernel_rfl)
 · have lt : decide (((L.map dQ).length : Int) < 2) = false := decide_eq_false (by omega)
   have start:∀ D:List HO×V,Gd PP 43 (.io 1 D.1 D.2) (lp fC 0) (cA_ L 1)→PureT PP 43 [.rw TCl 35 (L.map dQ)] [.ow 0,.cl 44 []] (.io 1 D.1 D.2):=fun D g=>by
    refine pfT (by kernel_rfl) (.to mo_ [] [0,1,5] [0] 1 [na lt] (td':=lp fC 0) (σ':=cA_ L 1) g (by kernel_rfl))
   have step : ∀ D : List HO × V, (∀ k, 1 ≤ k → k ≤ n → cpN L k = L.take k → (k = n → Gd PP 43 (.io 1 D.1 D.2) (lp fC 0) (cA_ L n)) ∧ (cpN L (k + 1) = L.take k → k < n → Gd PP 43 (.io 1 D.1 D.2) (lp fC 1) (cB_ L k n k 1))) → Gd PP 43 (.io 1 D.1 D.2) (lp fC 0) (cA_ L 1) := fun D hend => by
    refine Gd.loop (cA_ L) (fun k=>1≤k∧k≤n∧cpN L k=L.take k) (fun k=>n - k) ?_ 1 ⟨Nat.le_refl _,by omega, ?_⟩
    · rintro k ⟨h1,hk,hc⟩ ih
      by_cases hkn:k=n
      · subst hkn
        exact(hend k h1 hk hc).1 rfl
      · obtain⟨q,hq⟩:∃ q,L[k]? =some q:=⟨_,List.getElem?_eq_getElem (by omega)⟩
        obtain⟨r,hr⟩:∃ r,L[k - 1]? =some r:=⟨_,List.getElem?_eq_getElem (by omega)⟩
        have s1:=dQ_at hq
        have s2:=dQ_at hr
        have ce:=e_eq2 q.cm r.cm
        have lt2:decide ((k:Int)<((L.map dQ).length:Int))=true:=decide_eq_true (by omega)
        have ht:L.take (k+1)=L.take k++[q]:=by rw[List.take_add_one,hq];rfl
        let F:List F_:=[ye lt2,.sel _ _ _ s1,.sel _ _ _ s1,wq 25 ((k:Int) - 1) ((k - 1:Nat):Int) (by omega),.sel _ _ _ s2,.sel _ _ _ s2,cl ce]
        by_cases e:q.cm.nm=r.cm.nm
        · have hs:=sameN_t e
          have nx:=(hend k h1 hk hc).2 (by rw[cp_same h1 hq hr e,hc]) (by omega)
          exact .to mo_ [] [0,1,5,6,7] [0] 1 (F++[ye hs,.slo (L.map dQ) k (L.map dQ).length ⟨by omega,by omega⟩ (by omega),.eqv 31 (.os 0 35 k (L.map dQ).length) (.os 0 35 k n) (by rw[ml])]) nx (by kernel_rfl)
        · have hs:=sameN_f e
          have nx:=ih (k+1) ⟨by omega,by omega,by rw[cp_new h1 hq hr e,hc,ht]⟩ (by omega)
          exact .to mo_ [] [0,1,5] [0] 1 (F++[na hs,inc 17 k (by omega)]) nx (by kernel_rfl)
    · obtain⟨q,hq⟩:∃ q,L[0]? =some q:=⟨_,List.getElem?_eq_getElem (by omega)⟩
      rw[cp_one hq,List.take_add_one,hq]
      rfl
   by_cases hc:cpt L=L
   · refine .inl ⟨hc,start ([.rw TCl 35 (L.map dQ)],.ow 0) (step _ fun k h1 hk hk2=>⟨fun _=> ?_,fun e hk3=> ?_⟩)⟩
     · have lt2:decide ((n:Int)<((L.map dQ).length:Int))=false:=decide_eq_false (by omega)
       unfold cA_
       generalize L.map dQ=M at*
       exact fi [na lt2] (by kernel_rfl) (by kernel_rfl)
     · have:=cp_len L (k+1) (n - (k+1))
       rw[show k+1+(n - (k+1))=n by omega,←hL,show cpN L L.length=cpt L from rfl,hc,e,List.length_take]at this
       omega
   · refine .inr (start ([.dead,.rw TCl 35 ((cpt L).map dQ)],.ow 1) (step _ fun k h1 hk hk2=>⟨fun e=> ?_,fun e hk3=> ?_⟩))
     · refine absurd ?_ hc
       unfold cpt
       rw[hL,←e,hk2,List.take_of_length_le (by omega)]
     · have hlen:(cpN L (k+1)).length=k:=by rw[e,List.length_take];omega
       have hr:rC (cpN L (k+1)) L=L:=by unfold rC;rw[e,List.length_take,Nat.min_eq_left (by omega)];exact List.take_append_drop ..
       have g:=cp_in hL hn k h1 (n - (k+1)) 1 (by omega) (Nat.le_refl _) (by omega)
       rw[hlen,hr]at g
       exact g
end
end Go.Proofs.YtfdfbenejkmnlaaGreatDoor.E.Ca
namespace Go.Proofs.YtfdfbenejkmnlaaGreatDoor.E.Ca
open Go.RowKit
set_option linter.unusedVariables false
set_option linter.unusedSimpArgs false
section
variable {q r:CQ} {L C:List CQ} {i k n:Nat}
theorem cpN_mem (L:List CQ):∀ n,∀ q∈cpN L n,q∈L
 |0,q,h=>by cases h
 |n+1,q,h=>by
  unfold cpN at h
  have ih:=cpN_mem L n q
  split at h
  · rename_i x y hx hy
    split at h
    · exact ih h
    · rcases List.mem_append.1 h with h|h
      · exact ih h
      · rw[List.mem_singleton]at h;subst h;exact List.mem_of_getElem? hx
  · rename_i x hx hy
    rcases List.mem_append.1 h with h|h
    · exact ih h
    · rw[List.mem_singleton]at h;subst h;exact List.mem_of_getElem? hx
  · exact ih h
/-- The first claims of each name, in their order. -/
def sorted (L:List CQ):List CQ:=srt cmp2 (cpt (srt cmp1 L))
theorem sorted_sub (h:q∈sorted L):q∈L:=(srt_mem cmp1).1 (cpN_mem _ _ q ((srt_mem cmp2).1 h))
theorem sorted_le (L:List CQ):(sorted L).length≤L.length:=by
 unfold sorted
 rw[(srt_perm cmp2 _).length_eq]
 have:=cp_len (srt cmp1 L) 0 (srt cmp1 L).length
 rw[Nat.zero_add,(srt_perm cmp1 L).length_eq]at this
 unfold cpt
 rw[(srt_perm cmp1 L).length_eq]
 have h0:(cpN (srt cmp1 L) 0).length=0:=rfl
 omega
noncomputable abbrev fS_:Func:=fnOf PP 12
noncomputable def sX (L:List CQ) (k:Nat):St:=at_ fS_ [(0,.sl (L.map dQ)),(3,.ow 0),(6,.sl (L.map dQ)),(7,ni L.length),(8,ni k)] [.rw TCl 35 ((L.take k).map dQ)]
theorem orI_le1 {x y:Int} (h:orI x y≤0):x≤0:=by
 unfold orI at h
 split at h<;>omega
theorem cpN_nm (hs : L.Pairwise fun a b => cmp1 a b ≤ 0) : ∀ n, (cpN L n).Pairwise (fun a b => ordN a.cm.nm b.cm.nm < 0) ∧ ∀ a ∈ cpN L n, ∃ j, j < n ∧ L[j]? = some a
 |0=>⟨.nil,fun a h=>by cases h⟩
 | n + 1 => by
  obtain⟨ih1,ih2⟩:=cpN_nm hs n
  have up:∀ a∈cpN L n,∃ j,j<n+1∧L[j]? =some a:=fun a ha=>by
   obtain⟨j,h1,h2⟩:=ih2 a ha
   exact⟨j,by omega,h2⟩
  conv=>arg 1;arg 2;unfold cpN
  conv=>arg 2;ext a;unfold cpN
  split
  · rename_i x y hx hy
    have hn:n≠0:=fun e=>by rw[if_pos e]at hy;cases hy
    rw[if_neg hn]at hy
    by_cases e:x.cm.nm=y.cm.nm
    · rw[if_pos e];exact⟨ih1,up⟩
    · rw [if_neg e]
      refine⟨List.pairwise_append.2 ⟨ih1,List.pairwise_singleton _ _,fun a ha b hb=> ?_⟩,fun a ha=> ?_⟩
      · rw[List.mem_singleton]at hb
        subst hb
        obtain⟨j,h1,h2⟩:=ih2 a ha
        have pw:=List.pairwise_iff_getElem.1 hs
        have leN:∀ {a b:CQ},cmp1 a b≤0→ordN a.cm.nm b.cm.nm≤0:=fun{a b} h=>orI_le1 h
        obtain⟨l1,g1⟩:=List.getElem?_eq_some_iff.1 hy
        obtain⟨l2,g2⟩:=List.getElem?_eq_some_iff.1 hx
        obtain⟨l3,g3⟩:=List.getElem?_eq_some_iff.1 h2
        have p1:=leN (pw (n - 1) n l1 l2 (by omega))
        rw[g1,g2]at p1
        have p1':ordN y.cm.nm b.cm.nm<0:=by
         rcases Int.lt_or_eq_of_le p1 with h|h
         · exact h
         · exact absurd (ordN_eq h).symm e
        rcases Nat.lt_or_eq_of_le (show j≤n - 1 by omega)with hj|hj
        · have p2:=leN (pw j (n - 1) l3 l1 hj)
          rw[g3,g1]at p2
          exact ordN_cmp.le_lt p2 p1'
        · subst hj
          have:a=y:=by rw[←g3,←g1]
          rw[this];exact p1'
      · rcases List.mem_append.1 ha with h|h
        · exact up a h
        · rw[List.mem_singleton]at h
          subst h
          exact⟨n,by omega,hx⟩
  · rename_i x hx hy
    have hn:n=0:=by
     rcases Nat.eq_zero_or_pos n with e|e
     · exact e
     · obtain⟨l2,g2⟩:=List.getElem?_eq_some_iff.1 hx
       rw[if_neg (by omega),List.getElem?_eq_getElem (by omega)]at hy
       cases hy
    subst hn
    exact⟨List.pairwise_singleton _ _,fun a ha=>by rw[show cpN L 0++[x]=[x]from rfl,List.mem_singleton]at ha;subst ha;exact⟨0,by omega,hx⟩⟩
  · exact⟨ih1,up⟩
theorem cpt_nm (L:List CQ):(cpt (srt cmp1 L)).Pairwise (fun a b=>ordN a.cm.nm b.cm.nm<0):=(cpN_nm (srt_pair cmp1_cmp L) _).1
theorem e_csort (hL:∀ q∈L,Sq q) (hn:L.length≤10000):Pure PP 12 [.sl (L.map dQ)] (.o TCl 35 ((sorted L).map dQ)):=by
 have ml:((L.map dQ).length:Int)=(L.length:Int):=by rw[List.length_map]
 refine pf (by kernel_rfl) (.to mo_ [.ow 3 (.rw TCl 35 [])] [0,3,6,7,8] [0] 1 [.eqv 7 (ni ((L.map dQ).length:Int)) (ni (L.length:Int)) (by rw[ml])] (td':=lp fS_ 0) (σ':=sX L 0) ?_ (by kernel_rfl))
 refine Gd.loop (sX L) (fun k=>k≤L.length) (fun k=>L.length - k) ?_ 0 (Nat.zero_le _)
 intro k hk ih
 by_cases h:k<L.length
 · have lt:decide ((k:Int)<(L.length:Int))=true:=decide_eq_true (by omega)
   obtain⟨q,hq⟩:∃ q,L[k]? =some q:=⟨_,List.getElem?_eq_getElem h⟩
   have hq2:=dQ_at hq
   have nx:=ih (k+1) h (by omega)
   have cp:=e_copied q.cm (by have:=(hL q (List.mem_of_getElem? hq)).n;show q.refs.length≤1000;omega)
   have ap:(L.take k).map dQ++[dQ q]=(L.take (k+1)).map dQ:=by rw[List.take_add_one,hq,List.map_append];rfl
   have al:((L.take (k+1)).map dQ).length≤10000:=by rw[List.length_map,List.length_take];omega
   unfold sX at nx⊢
   generalize L.map dQ=M at*
   generalize (L.take k).map dQ=A at*
   generalize (L.take (k+1)).map dQ=B at*
   exact .to mo_ [.mv 0 3] [0,3,6,7,8] [0] 1 [ye lt,.sel _ _ _ hq2,cl cp,.app _ _ _ 10000 ap (Nat.zero_lt_succ _) al,inc 17 k (by omega)] nx (by kernel_rfl)
 · have hk2:k=L.length:=by omega
   subst hk2
   have lt:decide ((L.length:Int)<(L.length:Int))=false:=decide_eq_false (by omega)
   have tk:(L.take L.length).map dQ=L.map dQ:=by rw[List.take_length]
   have h1:=e_sort1 L hL (by omega)
   have l1:(srt cmp1 L).length=L.length:=(srt_perm cmp1 L).length_eq
   have hs1:∀ q∈cpt (srt cmp1 L),q∈L:=fun q hq=>(srt_mem cmp1).1 (cpN_mem _ _ q hq)
   have hnm:∀ a∈cpt (srt cmp1 L),∀ b∈cpt (srt cmp1 L),a.cm.nm=b.cm.nm→a=b:=fun a ha b hb e=>by
    have pw:=List.pairwise_iff_getElem.1 (cpt_nm L)
    obtain⟨i,hi,rfl⟩:=List.getElem_of_mem ha
    obtain⟨j,hj,rfl⟩:=List.getElem_of_mem hb
    have irr:ordN (cpt (srt cmp1 L))[i].cm.nm (cpt (srt cmp1 L))[j].cm.nm=0:=by rw[e];exact ordN_cmp.refl _
    have irr2:ordN (cpt (srt cmp1 L))[j].cm.nm (cpt (srt cmp1 L))[i].cm.nm=0:=by rw[e];exact ordN_cmp.refl _
    rcases Nat.lt_trichotomy i j with h|h|h
    · have:=pw i j hi hj h;omega
    · subst h;rfl
    · have:=pw j i hj hi h;omega
   have cl_:(cpt (srt cmp1 L)).length≤L.length:=by
    have:=cp_len (srt cmp1 L) 0 (srt cmp1 L).length
    rw[Nat.zero_add]at this
    unfold cpt
    have h0:(cpN (srt cmp1 L) 0).length=0:=rfl
    omega
   have h2:=e_sort2 (cpt (srt cmp1 L)) (fun q hq=>hL q (hs1 q hq)) hnm (by omega)
   have hc:=e_compact (L:=srt cmp1 L) l1 (by omega)
   unfold sX sorted
   rw[tk]
   generalize L.map dQ=M at*
   rcases hc with⟨e,hc⟩|hc
   · rw[e]at h2⊢
     unfold cD at hc
     generalize (srt cmp2 (srt cmp1 L)).map dQ=W at*
     generalize (srt cmp1 L).map dQ=R at*
     exact fi [na lt,.lend _ _ _ _ [0] h1,.lend _ _ _ _ [0] hc,.lend _ _ _ _ [0] h2] (by kernel_rfl) (by kernel_rfl)
   · unfold cE at hc
     generalize (srt cmp2 (cpt (srt cmp1 L))).map dQ=W at*
     generalize (cpt (srt cmp1 L)).map dQ=Q at*
     generalize (srt cmp1 L).map dQ=R at*
     exact fi [na lt,.lend _ _ _ _ [0] h1,.lend _ _ _ _ [0] hc,.lend _ _ _ _ [1] h2] (by kernel_rfl) (by kernel_rfl)
end
end Go.Proofs.YtfdfbenejkmnlaaGreatDoor.E.Ca
