/-
 PACKAGE integer by the second engine: Mul.
-/
import Derived.Test.YtfdfbenejkmnlaaGreatDoorEmM
namespace Go.Proofs.YtfdfbenejkmnlaaGreatDoor.E
open Go.RowKit
set_option linter.unusedVariables false
theorem bd_len {k:Nat} {x:Int} (h:I.Bd k x):(digs x.natAbs).length≤k:=h.len (digs_ok _).1 (digs_ok _).2
theorem dig_ {x:Int}:I.Dig (digs x.natAbs):=(digs_ok _).1.1
theorem val_ {x:Int}:I.val (digs x.natAbs)=(x.natAbs:Int):=(digs_ok _).2
theorem len_le {x y:Int} (h:x.natAbs≤y.natAbs):(digs x.natAbs).length≤(digs y.natAbs).length:=
 (digs_ok _).1.len (digs_ok _).1.1 (by rw[val_,val_];omega)
section
variable {x y:Int} {j k:Nat}
theorem e_add (bx:I.Bd k x) (by_:I.Bd k y) (hk:k≤1000000000000):Pure PP 187 [.ag (dI x),.ag (dI y)] (.ag (dI (x+y))):=by
 have lx:=bd_len bx
 have ly:=bd_len by_
 have hp:(decide (x<0)=decide (y<0))→Pure PP 187 [.ag (dI x),.ag (dI y)] (.ag (dI (x+y))):=fun h=>by
  obtain⟨l,⟨dl,vl,_⟩,hl⟩:=e_plus (dig_ (x:=x)) (dig_ (x:=y)) (by omega)
  have ho:=e_of_ (decide (x<0)) dl
  rw[vl,val_,val_,show sg (decide (x<0)) ((x.natAbs:Int)+(y.natAbs:Int))=x+y by
   unfold sg
   by_cases h1:x<0<;>by_cases h2:y<0<;>simp[h1,h2]at h⊢ <;>omega]at ho
  exact tr [ye (t:=decide (x<0)==decide (y<0)) (by rw[h];simp),cl hl,cl ho] (by kernel_rfl)
 have hm:(decide (x<0)≠decide (y<0))→Pure PP 187 [.ag (dI x),.ag (dI y)] (.ag (dI (x+y))):=fun h=>by
  have hc:=e_compare (digs_ok x.natAbs).1 (digs_ok y.natAbs).1
  rw[val_,val_]at hc
  by_cases hlt:(x.natAbs:Int)<(y.natAbs:Int)
  · obtain⟨l,⟨dl,vl,_⟩,hl⟩:=e_minus (dig_ (x:=y)) (dig_ (x:=x)) (by omega) (len_le (by omega)) (by rw[val_,val_];omega)
    have ho:=e_of_ (decide (y<0)) dl
    rw[vl,val_,val_,show sg (decide (y<0)) ((y.natAbs:Int) - (x.natAbs:Int))=x+y by
     unfold sg
     by_cases h1:x<0<;>by_cases h2:y<0<;>simp[h1,h2]at h⊢ <;>omega]at ho
    rw[cmpZ_lt hlt]at hc
    exact tr [na (t:=decide (x<0)==decide (y<0)) (by simpa using h),cl hc,yt,cl hl,cl ho] (by kernel_rfl)
  · obtain⟨l,⟨dl,vl,_⟩,hl⟩:=e_minus (dig_ (x:=x)) (dig_ (x:=y)) (by omega) (len_le (by omega)) (by rw[val_,val_];omega)
    have ho:=e_of_ (decide (x<0)) dl
    rw[vl,val_,val_,show sg (decide (x<0)) ((x.natAbs:Int) - (y.natAbs:Int))=x+y by
     unfold sg
     by_cases h1:x<0<;>by_cases h2:y<0<;>simp[h1,h2]at h⊢ <;>omega]at ho
    exact tr [na (t:=decide (x<0)==decide (y<0)) (by simpa using h),cl hc,na (t:=decide (cmpZ (x.natAbs:Int) (y.natAbs:Int)<0)) (by unfold cmpZ;rw[if_neg hlt];split<;>rfl),cl hl,cl ho] (by kernel_rfl)
 by_cases h:decide (x<0)=decide (y<0)
 · exact hp h
 · exact hm h
end
noncomputable abbrev fshort:Func:=fnOf PP 185
/-- A division by one digit: from above, digit by digit. -/
theorem e_short {a:List Int} {m:Int} (n:Nat) (hn:m=((n+1:Nat):Int)) (da:I.Dig a) (hl:a.length≤1000000000000) (hm:m<1000000000):
    ∃ q,(I.Dig q∧q.length=a.length∧I.val a=I.val q*m+I.val a % m)∧Pure PP 185 [zl a,ni m] (.tu [.sl (zs q),ni (I.val a % m)]):=by
 have hm:0<m∧m<1000000000:=by omega
 let X:Nat×List Int×Int→St:=fun x=>at_ fshort [(0,zl a),(1,ni m),(6,.ow 0),(7,ni x.2.2),(8,ni ((x.1:Int) - 1))] [.rw 3 1 (zs (List.replicate x.1 0++x.2.1))]
 have key:∀ x:Nat×List Int×Int,(x.1≤a.length∧x.2.1.length=a.length - x.1∧I.Dig x.2.1∧0≤x.2.2∧x.2.2<m∧I.val (a.drop x.1)=I.val x.2.1*m+x.2.2)→
   ∃ q,(I.Dig q∧q.length=a.length∧I.val a=I.val q*m+I.val a % m)∧Gd PP 185 (.tu [.sl (zs q),ni (I.val a % m)]) (lp fshort 0) (X x):=by
  refine Gd.loopE X _ (fun x=>x.1) ?_
  rintro ⟨k,q,rest⟩ ⟨hk,hq,dq,hr0,hr1,hv⟩ ih
  simp only at hk hq dq hr0 hr1 hv ih
  cases k with
  |zero=>
   rw[List.drop_zero]at hv
   have hr:I.val a % m=rest:=by rw[hv,Int.add_comm,Int.mul_comm,Int.add_mul_emod_self_left,Int.emod_eq_of_lt hr0 hr1]
   rw[hr]
   exact⟨q,⟨dq,by omega,hv⟩,fi [na (t:=decide ((((0:Nat):Int) - 1)≥0)) rfl] (by kernel_rfl) (by kernel_rfl)⟩
  |succ i=>
   have ea:=num_el (l:=a) (i:=i) (by omega)
   generalize a.getD i 0=d at ea
   obtain⟨d0,d1⟩:=da.get ea
   have n0:0≤rest*1000000000+d:=by omega
   have hq0:0≤(rest*1000000000+d) / m:=Int.ediv_nonneg n0 (by omega)
   have hr2:0≤(rest*1000000000+d) % m:=Int.emod_nonneg _ (by omega)
   have hr3:(rest*1000000000+d) % m<m:=Int.emod_lt_of_pos _ hm.1
   have hdm:=Int.mul_ediv_add_emod (rest*1000000000+d) m
   have hq1:(rest*1000000000+d) / m<1000000000:=by
    refine Int.ediv_lt_of_lt_mul hm.1 ?_
    have:rest*1000000000+1000000000≤m*1000000000:=by omega
    omega
   have s1:(zs (List.replicate (i+1) 0++q))[i]? =some [ni 0]:=zs_at (by rw[List.getElem?_append_left (by simp),List.getElem?_replicate];simp)
   have s2:(zs (List.replicate (i+1) 0++q)).set i [ni ((rest*1000000000+d) / m)]=zs (List.replicate i 0++(rest*1000000000+d) / m::q):=by
    rw[zs_set,List.replicate_succ',List.append_assoc,List.set_append_right _ _ (by simp)];simp
   have hst:=I.short_step (q':=(rest*1000000000+d) / m) (rest':=(rest*1000000000+d) % m) ea hv (by rw[Int.mul_comm];exact hdm)
   have g1:=td_ n0 m
   have g2:=tm_ n0 m
   obtain⟨l,h1,hg⟩:=ih (i,(rest*1000000000+d) / m::q,(rest*1000000000+d) % m) ⟨by omega,by simp only[List.length_cons];omega,I.Dig.cons hq0 hq1 dq,hr2,hr3,hst⟩ (by simp only;omega)
   refine⟨l,h1, ?_⟩
   show Gd PP _ _ _ (at_ fshort [(0,zl a),(1,ni m),(6,.ow 0),(7,ni rest),(8,ni (((i+1:Nat):Int) - 1))] [.rw 3 1 (zs (List.replicate (i+1) 0++q))])
   rw[show((i+1:Nat):Int) - 1=(i:Int)by omega]
   generalize (rest*1000000000+d) / m=qq at*
   generalize (rest*1000000000+d) % m=rr at*
   generalize I.val a % m=e at*
   subst hn
   exact .to mo_ [] [0,1,6,7,8] [0] 1 [ye (t:=decide ((i:Int)≥0)) (by simp),wq 21 (rest*1000000000) (rest*1000000000) (by omega),.sel _ _ _ (zs_at ea),wq 26 (rest*1000000000+d) (rest*1000000000+d) (by omega),wq 31 ((rest*1000000000+d).tdiv ((n+1:Nat):Int)) qq (by omega),.eqv 34 (ni ((rest*1000000000+d).tmod ((n+1:Nat):Int))) (ni rr) (ni_eq g2),.sel _ _ _ s1,.upd _ _ _ _ _ s1 s2,wq 19 ((i:Int) - 1) ((i:Int) - 1) (by omega)] hg (by kernel_rfl)
 obtain⟨l,h1,hg⟩:=key (a.length,[],0) ⟨Nat.le_refl _,by simp,I.Dig.nil,Int.le_refl _,hm.1,by simp[I.val]⟩
 refine⟨l,h1, ?_⟩
 generalize I.val a % m=e at*
 subst hn
 simp only[X,List.append_nil]at hg
 rw[←zs_rep]at hg
 exact pf (by kernel_rfl) (.to mo_ [] [0,1,6,7,8] [0] 1 [.eqv 11 (ni ((zs a).length:Int)) (ni a.length) (by rw[zs_len]),.mk a.length (by omega),.eqv 14 (ni ((zs a).length:Int)) (ni a.length) (by rw[zs_len]),wq 15 ((a.length:Int) - 1) ((a.length:Int) - 1) (by omega)] hg (by kernel_rfl))
noncomputable abbrev fscaled:Func:=fnOf PP 194
/-- A row: only to be read; or the caller's own. -/
def rO (o:Bool) (l:List Int):RD:=match o with
 |true=> .o 3 1 (zs l)
 |false=> .sl (zs l)
theorem e_scaled_t {a:List Int} {m:Int} (da:I.Dig a) (hl:a.length≤1000000000000) (hm:0≤m∧m≤1000000000):
  ∃ l,(I.Dig l∧I.val l=I.val a*m∧l.length=a.length+1)∧Pure PP 194 [zl a,ni m] (rO true l):=by
 let X:Nat×List Int×Int→St:=fun x=>at_ fscaled [(0,zl a),(1,ni m),(5,.ow 0),(6,ni x.2.2),(14,zl a),(15,ni a.length),(16,ni x.1)] [.rw 3 1 (row x.2.1 (a.length+1) x.1)]
 have key:∀ x:Nat×List Int×Int,(x.1≤a.length∧x.2.1.length=x.1∧I.Dig x.2.1∧0≤x.2.2∧x.2.2<1000000000∧I.val x.2.1+I.pw x.1*x.2.2=I.val (a.take x.1)*m)→
   ∃ l,(I.Dig l∧I.val l=I.val a*m∧l.length=a.length+1)∧Gd PP 194 (rO true l) (lp fscaled 0) (X x):=by
  refine Gd.loopE X _ (fun x=>a.length - x.1) ?_
  rintro ⟨k,r,c⟩ ⟨hk,hr,dr,hc0,hc1,hv⟩ ih
  simp only at hk hr dr hc0 hc1 hv ih
  have s1:=row_sel (n:=a.length+1) hr (by omega)
  by_cases h:k<a.length
  · have ea:=num_el (l:=a) (i:=k) h
    generalize a.getD k 0=d at ea
    obtain⟨d0,d1⟩:=da.get ea
    have hda:=I.dg_some ea
    have p0:0≤d*m:=Int.mul_nonneg d0 hm.1
    have p1:d*m≤999999999*1000000000:=Int.mul_le_mul (by omega) hm.2 hm.1 (by omega)
    generalize hp:d*m=p at p0 p1
    have s2:=row_set (n:=a.length+1) ((p+c) % 1000000000) hr (by omega)
    obtain⟨l,h1,hg⟩:=ih (k+1,r++[(p+c) % 1000000000],(p+c) / 1000000000) ⟨h,by simp[hr],dr.snoc (by omega) (by omega),by simp only;omega,by simp only;omega,I.scale_step (v:=(p+c) % 1000000000) (c':=(p+c) / 1000000000) hr hv (by rw[hda,hp];omega)⟩ (by simp only;omega)
    have g1:=td_ (show 0≤p+c by omega) 1000000000
    have g2:=tm_ (show 0≤p+c by omega) 1000000000
    exact⟨l,h1,.to mo_ [] [0,1,5,6,14,15,16] [0] 1 [ye (t:=decide ((k:Int)<(a.length:Int))) (decide_eq_true (by omega)),.sel _ _ _ (zs_at ea),wq 23 (d*m) p (by omega),wq 25 (p+c) (p+c) (by omega),.eqv 29 (ni ((p+c).tmod 1000000000)) (ni ((p+c) % 1000000000)) (ni_eq g2),wq 31 ((p+c).tdiv 1000000000) ((p+c) / 1000000000) (by omega),.sel _ _ _ s1,.upd _ _ _ _ _ s1 s2,inc 33 k (by omega)] hg (by kernel_rfl)⟩
  · obtain rfl:k=a.length:=by omega
    have s2:=row_set (n:=a.length+1) c hr (by omega)
    rw[row_end (Nat.le_refl _)]at s2
    rw[I.val_take_over (Nat.le_refl _)]at hv
    refine⟨r++[c],⟨dr.snoc hc0 (by omega),by rw[I.val_snoc,hr];exact hv,by simp[hr]⟩, ?_⟩
    exact fi [na (t:=decide ((a.length:Int)<(a.length:Int))) (decide_eq_false (by omega)),.eqv 36 (ni ((zs a).length:Int)) (ni a.length) (by rw[zs_len]),.sel _ _ _ s1,.upd _ _ _ [ni c] _ s1 s2] (by kernel_rfl) (by kernel_rfl)
 obtain⟨l,h1,hg⟩:=key (0,[],0) ⟨Nat.zero_le _,rfl,I.Dig.nil,Int.le_refl _,by simp,by simp[I.val]⟩
 refine⟨l,h1, ?_⟩
 simp only[X]at hg
 rw[←row_0]at hg
 exact pf (by kernel_rfl) (.to mo_ [] [0,1,5,6,14,15,16] [0] 1 [.eqv 11 (ni ((zs a).length:Int)) (ni a.length) (by rw[zs_len]),wq 12 ((a.length:Int)+1) ((a.length+1:Nat):Int) (by omega),.mk (a.length+1) (by omega),.eqv 15 (ni ((zs a).length:Int)) (ni a.length) (by rw[zs_len])] hg (by kernel_rfl))
theorem e_scaled_f {a:List Int} {m:Int} (da:I.Dig a) (hl:a.length≤1000000000000) (hm:0≤m∧m≤1000000000):
  ∃ l,(I.Dig l∧I.val l=I.val a*m∧l.length=a.length+1)∧Pure PP 194 [zl a,ni m] (rO false l):=by
 let X:Nat×List Int×Int→St:=fun x=>at_ fscaled [(0,zl a),(1,ni m),(5,.ow 0),(6,ni x.2.2),(14,zl a),(15,ni a.length),(16,ni x.1)] [.rw 3 1 (row x.2.1 (a.length+1) x.1)]
 have key:∀ x:Nat×List Int×Int,(x.1≤a.length∧x.2.1.length=x.1∧I.Dig x.2.1∧0≤x.2.2∧x.2.2<1000000000∧I.val x.2.1+I.pw x.1*x.2.2=I.val (a.take x.1)*m)→
   ∃ l,(I.Dig l∧I.val l=I.val a*m∧l.length=a.length+1)∧Gd PP 194 (rO false l) (lp fscaled 0) (X x):=by
  refine Gd.loopE X _ (fun x=>a.length - x.1) ?_
  rintro ⟨k,r,c⟩ ⟨hk,hr,dr,hc0,hc1,hv⟩ ih
  simp only at hk hr dr hc0 hc1 hv ih
  have s1:=row_sel (n:=a.length+1) hr (by omega)
  by_cases h:k<a.length
  · have ea:=num_el (l:=a) (i:=k) h
    generalize a.getD k 0=d at ea
    obtain⟨d0,d1⟩:=da.get ea
    have hda:=I.dg_some ea
    have p0:0≤d*m:=Int.mul_nonneg d0 hm.1
    have p1:d*m≤999999999*1000000000:=Int.mul_le_mul (by omega) hm.2 hm.1 (by omega)
    generalize hp:d*m=p at p0 p1
    have s2:=row_set (n:=a.length+1) ((p+c) % 1000000000) hr (by omega)
    obtain⟨l,h1,hg⟩:=ih (k+1,r++[(p+c) % 1000000000],(p+c) / 1000000000) ⟨h,by simp[hr],dr.snoc (by omega) (by omega),by simp only;omega,by simp only;omega,I.scale_step (v:=(p+c) % 1000000000) (c':=(p+c) / 1000000000) hr hv (by rw[hda,hp];omega)⟩ (by simp only;omega)
    have g1:=td_ (show 0≤p+c by omega) 1000000000
    have g2:=tm_ (show 0≤p+c by omega) 1000000000
    exact⟨l,h1,.to mo_ [] [0,1,5,6,14,15,16] [0] 1 [ye (t:=decide ((k:Int)<(a.length:Int))) (decide_eq_true (by omega)),.sel _ _ _ (zs_at ea),wq 23 (d*m) p (by omega),wq 25 (p+c) (p+c) (by omega),.eqv 29 (ni ((p+c).tmod 1000000000)) (ni ((p+c) % 1000000000)) (ni_eq g2),wq 31 ((p+c).tdiv 1000000000) ((p+c) / 1000000000) (by omega),.sel _ _ _ s1,.upd _ _ _ _ _ s1 s2,inc 33 k (by omega)] hg (by kernel_rfl)⟩
  · obtain rfl:k=a.length:=by omega
    have s2:=row_set (n:=a.length+1) c hr (by omega)
    rw[row_end (Nat.le_refl _)]at s2
    rw[I.val_take_over (Nat.le_refl _)]at hv
    refine⟨r++[c],⟨dr.snoc hc0 (by omega),by rw[I.val_snoc,hr];exact hv,by simp[hr]⟩, ?_⟩
    exact fi [na (t:=decide ((a.length:Int)<(a.length:Int))) (decide_eq_false (by omega)),.eqv 36 (ni ((zs a).length:Int)) (ni a.length) (by rw[zs_len]),.sel _ _ _ s1,.upd _ _ _ [ni c] _ s1 s2] (by kernel_rfl) (by kernel_rfl)
 obtain⟨l,h1,hg⟩:=key (0,[],0) ⟨Nat.zero_le _,rfl,I.Dig.nil,Int.le_refl _,by simp,by simp[I.val]⟩
 refine⟨l,h1, ?_⟩
 simp only[X]at hg
 rw[←row_0]at hg
 exact pf (by kernel_rfl) (.to mo_ [] [0,1,5,6,14,15,16] [0] 1 [.eqv 11 (ni ((zs a).length:Int)) (ni a.length) (by rw[zs_len]),wq 12 ((a.length:Int)+1) ((a.length+1:Nat):Int) (by omega),.mk (a.length+1) (by omega),.eqv 15 (ni ((zs a).length:Int)) (ni a.length) (by rw[zs_len])] hg (by kernel_rfl))
theorem e_scaled (o:Bool) {a:List Int} {m:Int} (da:I.Dig a) (hl:a.length≤1000000000000) (hm:0≤m∧m≤1000000000):
  ∃ l,(I.Dig l∧I.val l=I.val a*m∧l.length=a.length+1)∧Pure PP 194 [zl a,ni m] (rO o l):=by
 cases o
 · exact e_scaled_f da hl hm
 · exact e_scaled_t da hl hm
end Go.Proofs.YtfdfbenejkmnlaaGreatDoor.E
namespace Go.Proofs.YtfdfbenejkmnlaaGreatDoor.E
open Go.RowKit
set_option linter.unusedVariables false
noncomputable abbrev fmul:Func:=fnOf PP 132
noncomputable def muX (x y:Int) (a b:List Int) (i:Nat) (out:List Int):St:=at_ fmul [(2,.lp 0 0),(3,.lp 1 0),(4,.lp 2 0),(6,zl b),(7,.ow 3),(47,zl a),(48,ni a.length),(49,ni i)] [.bx 32 (dI x),.bx 32 (dI y),.bx 32 [bo false,.nl],.rw 3 1 (zs out)]
noncomputable def muY (x y:Int) (a b:List Int) (i:Nat) (d:Int) (k:Nat) (out:List Int) (c:Int):St:=at_ fmul [(2,.lp 0 0),(3,.lp 1 0),(4,.lp 2 0),(6,zl b),(7,.ow 3),(8,ni i),(9,ni d),(10,ni c),(47,zl a),(48,ni a.length),(49,ni i),(54,zl b),(55,ni b.length),(56,ni k)] [.bx 32 (dI x),.bx 32 (dI y),.bx 32 [bo false,.nl],.rw 3 1 (zs out)]
section
variable {x y:Int} {j k:Nat}
theorem mul_inner {a b:List Int} {D:V} (da:I.Dig a) (db:I.Dig b) (hl:a.length+b.length≤1000000000000) {i:Nat} (hi:i<a.length) {d:Int} (hd:a[i]? =some d)
  (hD:∀ out,out.length=a.length+b.length→I.Dig out→I.val out=I.val (a.take (i+1))*I.val b→out.drop (i+1+b.length)=List.replicate (a.length - (i+1)) 0→Gd PP 132 D (lp fmul 0) (muX x y a b (i+1) out)):
  ∀ z:Nat×List Int×Int,(z.1≤b.length∧z.2.1.length=a.length+b.length∧I.Dig z.2.1∧0≤z.2.2∧z.2.2<1000000000∧I.val z.2.1+z.2.2*I.pw (i+z.1)=I.val (a.take i)*I.val b+d*I.val (b.take z.1)*I.pw i∧z.2.1.drop (i+b.length)=List.replicate (a.length - i) 0)→
   Gd PP 132 D (lp fmul 1) (muY x y a b i d z.1 z.2.1 z.2.2):=by
 obtain⟨d0,d1⟩:=da.get hd
 refine Gd.loop (fun z:Nat×List Int×Int=>muY x y a b i d z.1 z.2.1 z.2.2) _ (fun z=>b.length - z.1) ?_
 rintro ⟨k,out,c⟩ ⟨hk,ho,dout,hc0,hc1,hv,hr⟩ ih
 simp only at hk ho dout hc0 hc1 hv hr ih⊢
 by_cases h:k<b.length
 · have eb:=num_el (l:=b) (i:=k) h
   generalize b.getD k 0=e at eb
   obtain⟨e0,e1⟩:=db.get eb
   have ey:=num_el (l:=out) (i:=i+k) (by omega)
   generalize out.getD (i+k) 0=y0 at ey
   obtain⟨y0',y1⟩:=dout.get ey
   have p0:0≤d*e:=Int.mul_nonneg d0 e0
   have p1:d*e≤999999999*999999999:=Int.mul_le_mul (by omega) (by omega) e0 (by omega)
   generalize hp:d*e=p at p0 p1
   have g1:=td_ (show 0≤y0+p+c by omega) 1000000000
   have hst:=I.mul_step (v:=y0+p+c) (c':=(y0+p+c) / 1000000000) ey hv eb (by rw[hp])
   have hnx:=ih (k+1,out.set (i+k) (y0+p+c - (y0+p+c) / 1000000000*1000000000),(y0+p+c) / 1000000000) ⟨h,by simp[ho],dout.set (by omega) (by omega),by simp only;omega,by simp only;omega,hst,by simp only;rw[I.drop_set (by omega)];exact hr⟩ (by simp only;omega)
   exact .to mo_ [] [2,3,4,6,7,8,9,10,47,48,49,54,55,56] [0,1,2,3] 4 [ye (t:=decide ((k:Int)<(b.length:Int))) (decide_eq_true (by omega)),.sel _ _ _ (zs_at eb),
     wq 64 ((i:Int)+(k:Int)) ((i+k:Nat):Int) (by omega),.sel _ _ _ (zs_at ey),.sel _ _ _ (zs_at ey),wq 69 (d*e) p (by omega),wq 70 (y0+p) (y0+p) (by omega),wq 72 (y0+p+c) (y0+p+c) (by omega),
     wq 74 ((y0+p+c).tdiv 1000000000) ((y0+p+c) / 1000000000) (by omega),wq 78 ((i:Int)+(k:Int)) ((i+k:Nat):Int) (by omega),wq 81 ((y0+p+c) / 1000000000*1000000000) ((y0+p+c) / 1000000000*1000000000) (by omega),wq 82 (y0+p+c - (y0+p+c) / 1000000000*1000000000) (y0+p+c - (y0+p+c) / 1000000000*1000000000) (by omega),
     .sel _ _ _ (zs_at ey),.upd _ _ _ _ _ (zs_at ey) (zs_set out (i+k) (y0+p+c - (y0+p+c) / 1000000000*1000000000)),inc 84 k (by omega)] hnx (by kernel_rfl)
 · obtain rfl:k=b.length:=by omega
   rw[I.val_take_over (Nat.le_refl _)]at hv
   have ey:out[i+b.length]? =some 0:=I.get_drop_rep (n:=a.length - i - 1) (by rw[hr];congr 1;omega)
   have hlast:=I.mul_last ey hv hd
   exact .to mo_ [] [2,3,4,6,7,47,48,49] [0,1,2,3] 4 [na (t:=decide ((b.length:Int)<(b.length:Int))) (decide_eq_false (by omega)),.eqv 88 (ni ((zs b).length:Int)) (ni b.length) (by rw[zs_len]),wq 89 ((i:Int)+(b.length:Int)) ((i+b.length:Nat):Int) (by omega),.sel _ _ _ (zs_at ey),.upd _ _ _ _ _ (zs_at ey) (zs_set out (i+b.length) c),inc 92 i (by omega)]
    (hD (out.set (i+b.length) c) (by simp[ho]) (dout.set hc0 hc1) hlast (by
     rw[show i+1+b.length=i+b.length+1 by omega,I.drop_set (by omega),←List.drop_drop,hr,List.drop_replicate]
     congr 1)) (by kernel_rfl)
theorem mul_outer {x y:Int} {a b:List Int} {s:Bool} (da:I.Dig a) (db:I.Dig b) (hl:a.length+b.length≤1000000000000) (hs:(decide (x<0) != decide (y<0))=s):
  ∀ z:Nat×List Int,(z.1≤a.length∧z.2.length=a.length+b.length∧I.Dig z.2∧I.val z.2=I.val (a.take z.1)*I.val b∧z.2.drop (z.1+b.length)=List.replicate (a.length - z.1) 0)→
   Gd PP 132 (.ag (dI (sg s (I.val a*I.val b)))) (lp fmul 0) (muX x y a b z.1 z.2):=by
 refine Gd.loop (fun z:Nat×List Int=>muX x y a b z.1 z.2) _ (fun z=>a.length - z.1) ?_
 rintro ⟨i,out⟩ ⟨hi,ho,dout,hv,hr⟩ ih
 simp only at hi ho dout hv hr ih⊢
 by_cases h:i<a.length
 · have ea:=num_el (l:=a) (i:=i) h
   generalize a.getD i 0=d at ea
   have hin:=mul_inner (x:=x) (y:=y) da db hl h ea (fun o h1 h2 h3 h4=>ih (i+1,o) ⟨h,h1,h2,h3,h4⟩ (by simp only;omega)) (0,out,0) ⟨Nat.zero_le _,ho,dout,Int.le_refl _,by simp,by simp[I.val,hv],hr⟩
   exact .to mo_ [] [2,3,4,6,7,8,9,10,47,48,49,54,55,56] [0,1,2,3] 4 [ye (t:=decide ((i:Int)<(a.length:Int))) (decide_eq_true (by omega)),.sel _ _ _ (zs_at ea),.eqv 55 (ni ((zs b).length:Int)) (ni b.length) (by rw[zs_len])] hin (by kernel_rfl)
 · obtain rfl:i=a.length:=by omega
   rw[I.val_take_over (Nat.le_refl _)]at hv
   have hof:=e_of_ s dout
   rw[hv]at hof
   subst hs
   exact fi [na (t:=decide ((a.length:Int)<(a.length:Int))) (decide_eq_false (by omega)),cl hof] (by kernel_rfl) (by kernel_rfl)
theorem sg_mul (x y:Int):sg (decide (x<0) != decide (y<0)) ((x.natAbs:Int)*(y.natAbs:Int))=x*y:=by
 have h:∀ p:Int,(p.natAbs:Int)=if p<0 then -p else p:=fun p=>by split<;>omega
 rw[h x,h y]
 unfold sg
 by_cases h1:x<0<;>by_cases h2:y<0<;>simp[h1,h2,Int.neg_mul,Int.mul_neg]
theorem e_mul (bx:I.Bd j x) (by_:I.Bd k y) (hk:j+k≤1000000000000):Pure PP 132 [.ag (dI x),.ag (dI y)] (.ag (dI (x*y))):=by
 have lx:=bd_len bx
 have ly:=bd_len by_
 have dx:=dig_ (x:=x)
 have dy:=dig_ (x:=y)
 have hm:=mul_outer (x:=x) (y:=y) dx dy (by omega) rfl
 rw[val_,val_,sg_mul]at hm
 have zm:∀ {a b:List Int},(a.length+b.length≤1000000000000)→(zs a).length+(zs b).length=a.length+b.length:=fun _=>by rw[zs_len,zs_len]
 have h0:=hm (0,List.replicate ((digs x.natAbs).length+(digs y.natAbs).length) 0) ⟨Nat.zero_le _,by simp,I.Dig.rep _,by simp[I.val_rep,I.val],by simp[List.drop_replicate]⟩
 simp only[muX]at h0
 rw[←zs_rep]at h0
 have hb:Gd PP 132 (.ag (dI (x*y))) (rg fmul 4) (at_ fmul [(2,.lp 0 0),(3,.lp 1 0),(4,.lp 2 0),(5,dg x),(6,dg y)] [.bx 32 (dI x),.bx 32 (dI y),.bx 32 [bo false,.nl]]):=by
  exact .to mo_ [] [2,3,4,6,7,47,48,49] [0,1,2,3] 4 [.eqv 42 (ni ((zs (digs x.natAbs)).length:Int)) (ni (digs x.natAbs).length) (by rw[zs_len]),.eqv 44 (ni ((zs (digs y.natAbs)).length:Int)) (ni (digs y.natAbs).length) (by rw[zs_len]),wq 45 (((digs x.natAbs).length:Int)+((digs y.natAbs).length:Int)) (((digs x.natAbs).length+(digs y.natAbs).length:Nat):Int) (by omega),.mk ((digs x.natAbs).length+(digs y.natAbs).length) (by omega),.eqv 48 (ni ((zs (digs x.natAbs)).length:Int)) (ni (digs x.natAbs).length) (by rw[zs_len])] h0 (by kernel_rfl)
 by_cases h1:(digs x.natAbs).length=1
 · by_cases h2:(digs y.natAbs).length=1
   · have ex:=num_el (l:=digs x.natAbs) (i:=0) (by omega)
     have ey:=num_el (l:=digs y.natAbs) (i:=0) (by omega)
     have vx:(digs x.natAbs).getD 0 0=(x.natAbs:Int):=by
      rw[←val_ (x:=x)]
      match hd:digs x.natAbs,h1 with
      |[d],_=>simp[I.val]
     have vy:(digs y.natAbs).getD 0 0=(y.natAbs:Int):=by
      rw[←val_ (x:=y)]
      match hd:digs y.natAbs,h2 with
      |[d],_=>simp[I.val]
     rw[vx]at ex
     rw[vy]at ey
     obtain⟨x0,x1⟩:=dx.get ex
     obtain⟨y0,y1⟩:=dy.get ey
     have p0:0≤(x.natAbs:Int)*(y.natAbs:Int):=Int.mul_nonneg x0 y0
     have p1:(x.natAbs:Int)*(y.natAbs:Int)≤999999999*999999999:=Int.mul_le_mul (by omega) (by omega) y0 (by omega)
     have hu:=e_unsigned (decide (x<0) != decide (y<0)) (u:=(x.natAbs:Int)*(y.natAbs:Int)) p0 (by omega)
     rw[sg_mul]at hu
     exact tr [ye (t:=((zs (digs x.natAbs)).length:Int)==1) (by rw[zs_len,h1];rfl),ye (t:=((zs (digs y.natAbs)).length:Int)==1) (by rw[zs_len,h2];rfl),.sel _ _ _ (zs_at ex),.eqv 34 (nu (IntKind.u64.wrap (x.natAbs:Int))) (nu (x.natAbs:Int)) (nu_eq (by rw[IntKind.wrap_u64];omega)),.sel _ _ _ (zs_at ey),.eqv 38 (nu (IntKind.u64.wrap (y.natAbs:Int))) (nu (y.natAbs:Int)) (nu_eq (by rw[IntKind.wrap_u64];omega)),.eqv 39 (nu (IntKind.u64.wrap ((x.natAbs:Int)*(y.natAbs:Int)))) (nu ((x.natAbs:Int)*(y.natAbs:Int))) (nu_eq (by rw[IntKind.wrap_u64];omega)),cl hu] (by kernel_rfl)
   · exact pf (by kernel_rfl) (.to mo_ [] [2,3,4,5,6] [0,1,2] 3 [ye (t:=((zs (digs x.natAbs)).length:Int)==1) (by rw[zs_len,h1];rfl),na (t:=((zs (digs y.natAbs)).length:Int)==1) (by rw[zs_len];simp;omega)] hb (by kernel_rfl))
 · exact pf (by kernel_rfl) (.to mo_ [] [2,3,4,5,6] [0,1,2] 3 [na (t:=((zs (digs x.natAbs)).length:Int)==1) (by rw[zs_len];simp;omega),nf] hb (by kernel_rfl))
end
end Go.Proofs.YtfdfbenejkmnlaaGreatDoor.E
