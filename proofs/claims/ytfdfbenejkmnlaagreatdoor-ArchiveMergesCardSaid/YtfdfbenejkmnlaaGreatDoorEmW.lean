/-
 THE REFERENCE of package integer by the second engine: Div, Gcd, Same.
-/
import Derived.Test.YtfdfbenejkmnlaaGreatDoorEmT
namespace Go.Proofs.YtfdfbenejkmnlaaGreatDoor.E
open Go.RowKit
set_option linter.unusedVariables false
section
variable {x y:Int} {j k:Nat} {a b:List Int}
noncomputable abbrev fp3:Func:=fnOf PP 174
theorem e_plus3 (da:I.Dig a) (db:I.Dig b) (hl:a.length≤1000000000000∧b.length≤1000000000000):∃ l,(I.Dig l∧I.val l=I.val a+I.val b)∧Pure PP 174 [zl a,zl b] (.sl (zs l)):=by
 let X:Nat×List Int×Int→St:=fun z=>at_ fp3 [(0,zl a),(1,zl b),(5,.ow 0),(6,ni z.2.2),(7,ni z.1)] [.rw 3 1 (zs z.2.1)]
 have key : ∀ z : Nat × List Int × Int, (z.2.1.length = z.1 ∧ I.Dig z.2.1 ∧ 0 ≤ z.2.2 ∧ z.2.2 ≤ 1 ∧ (z.1 ≤ a.length ∨ z.1 ≤ b.length ∨ z.2.2 = 0) ∧ z.1 ≤ max a.length b.length + 1 ∧ I.val z.2.1 + I.pw z.1 * z.2.2 = I.val (a.take z.1) + I.val (b.take z.1)) →
   ∃ l,(I.Dig l∧I.val l=I.val a+I.val b)∧Gd PP 174 (.sl (zs l)) (lp fp3 0) (X z):=by
  refine Gd.loopE X _ (fun z=>max a.length b.length+2 - z.1) ?_
  rintro ⟨k,r,c⟩ ⟨hr,dr,c0,c1,hc,hk,hv⟩ ih
  simp only at hr dr c0 c1 hc hk hv ih
  have da0:=I.dg_bd da k
  have db0:=I.dg_bd db k
  have ta:=e_digit a k
  have tb:=e_digit b k
  by_cases hend:a.length≤k∧b.length≤k∧c=0
  · obtain⟨h1,h2,h3⟩:=hend
    subst h3
    rw[Int.mul_zero,Int.add_zero,I.val_take_over h1,I.val_take_over h2]at hv
    exact⟨r,⟨dr,hv⟩,fi [na (t:=decide ((k:Int)<((zs a).length:Int))) (decide_eq_false (by rw[zs_len];omega)),na (t:=decide ((k:Int)<((zs b).length:Int))) (decide_eq_false (by rw[zs_len];omega)),na (t:=decide ((0:Int)>0)) rfl] (by kernel_rfl) (by kernel_rfl)⟩
  · have hst := I.plus_step (v := (I.dg a k + I.dg b k + c) % 1000000000) (c' := (I.dg a k + I.dg b k + c) / 1000000000) hr hv (by omega)
    have k0 : k + 1 ≤ a.length ∨ k + 1 ≤ b.length ∨ (I.dg a k + I.dg b k + c) / 1000000000 = 0 := by
     rcases Nat.lt_or_ge k a.length with h|h
     · exact .inl h
     · rcases Nat.lt_or_ge k b.length with h3|h3
       · exact .inr (.inl h3)
       · rw[I.dg_none h,I.dg_none h3]
         exact .inr (.inr (by omega))
    have hk3 : k ≤ max a.length b.length := by
     rcases hc with h|h|h
     · omega
     · omega
     · rcases Nat.lt_or_ge k a.length with h4|h4
       · omega
       · rcases Nat.lt_or_ge k b.length with h5|h5
         · omega
         · exact absurd ⟨h4,h5,h⟩ hend
    obtain⟨l,h1,hg⟩:=ih (k+1,r++[(I.dg a k+I.dg b k+c) % 1000000000],(I.dg a k+I.dg b k+c) / 1000000000) ⟨by simp[hr],dr.snoc (by omega) (by omega),by simp only;omega,by simp only;omega,k0,by simp only;omega,hst⟩ (by simp only;omega)
    refine⟨l,h1, ?_⟩
    generalize hA:I.dg a k=A at*
    generalize hB:I.dg b k=B at*
    have t1:=td_ (show 0≤A+B+c by omega) 1000000000
    have t2:=tm_ (show 0≤A+B+c by omega) 1000000000
    let FB:List F_:=[cl ta,cl tb,wq 31 (A+B) (A+B) (by omega),wq 33 (A+B+c) (A+B+c) (by omega),.eqv 36 (ni ((A+B+c).tmod 1000000000)) (ni ((A+B+c) % 1000000000)) (ni_eq t2),.app (zs r) [[ni ((A+B+c) % 1000000000)]] (zs (r++[(A+B+c) % 1000000000])) 1000000000010 (zs_one ..) (by simp) (by rw[zs_len];simp;omega),wq 40 ((A+B+c).tdiv 1000000000) ((A+B+c) / 1000000000) (by omega),inc 24 k (by omega)]
    by_cases h1:k<a.length
    · exact .to mo_ [.mv 0 2] [0,1,5,6,7] [0] 1 ([ye (t:=decide ((k:Int)<((zs a).length:Int))) (decide_eq_true (by rw[zs_len];omega)),yt,yt]++FB) hg (by kernel_rfl)
    · by_cases h2:k<b.length
      · exact .to mo_ [.mv 0 2] [0,1,5,6,7] [0] 1 ([na (t:=decide ((k:Int)<((zs a).length:Int))) (decide_eq_false (by rw[zs_len];omega)),ye (t:=decide ((k:Int)<((zs b).length:Int))) (decide_eq_true (by rw[zs_len];omega)),yt]++FB) hg (by kernel_rfl)
      · exact .to mo_ [.mv 0 2] [0,1,5,6,7] [0] 1 ([na (t:=decide ((k:Int)<((zs a).length:Int))) (decide_eq_false (by rw[zs_len];omega)),na (t:=decide ((k:Int)<((zs b).length:Int))) (decide_eq_false (by rw[zs_len];omega)),ye (t:=decide (c>0)) (decide_eq_true (by omega))]++FB) hg (by kernel_rfl)
 obtain⟨l,h1,hg⟩:=key (0,[],0) ⟨rfl,I.Dig.nil,Int.le_refl _,by simp,.inl (Nat.zero_le _),by simp,by simp[I.val]⟩
 exact⟨l,h1,pf (by kernel_rfl) (.to mo_ [.ow 5 (.rw 3 1 [])] [0,1,5,6,7] [0] 1 [] hg (by kernel_rfl))⟩
noncomputable abbrev fm3:Func:=fnOf PP 176
theorem e_minus3 (da:I.Dig a) (db:I.Dig b) (hl:a.length≤1000000000000) (hb:b.length≤a.length) (hle:I.val b≤I.val a):∃ l,MinIs a b l∧Pure PP 176 [zl a,zl b] (.sl (zs l)):=by
 let X:Nat×List Int×Int→St:=fun z=>at_ fm3 [(0,zl a),(1,zl b),(5,.ow 0),(6,ni z.2.2),(7,ni z.1)] [.rw 3 1 (zs z.2.1)]
 have key : ∀ z : Nat × List Int × Int, (z.1 ≤ a.length ∧ z.2.1.length = z.1 ∧ I.Dig z.2.1 ∧ 0 ≤ z.2.2 ∧ z.2.2 ≤ 1 ∧ I.val z.2.1 - I.pw z.1 * z.2.2 = I.val (a.take z.1) - I.val (b.take z.1)) →
   ∃ l,MinIs a b l∧Gd PP 176 (.sl (zs l)) (lp fm3 0) (X z):=by
  refine Gd.loopE X _ (fun z=>a.length - z.1) ?_
  rintro ⟨k,r,c⟩ ⟨hk,hr,dr,c0,c1,hv⟩ ih
  simp only at hk hr dr c0 c1 hv ih
  by_cases h:k<a.length
  · have ea:=num_el (l:=a) (i:=k) h
    generalize a.getD k 0=d at ea
    obtain⟨d0,d1⟩:=da.get ea
    have hda:=I.dg_some ea
    have db0:=I.dg_bd db k
    have tb:=e_digit b k
    generalize hB:I.dg b k=B at*
    let F0:List F_:=[ye (t:=decide ((k:Int)<((zs a).length:Int))) (decide_eq_true (by rw[zs_len];omega)),.sel _ _ _ (zs_at ea),cl tb,wq 22 (d - B) (d - B) (by omega),wq 24 (d - B - c) (d - B - c) (by omega)]
    let F1:Int→List F_:=fun v=>[.app (zs r) [[ni v]] (zs (r++[v])) 1000000000010 (zs_one ..) (by simp) (by rw[zs_len];simp;omega),inc 14 k (by omega)]
    by_cases hn:d - B - c<0
    · obtain⟨l,h1,hg⟩:=ih (k+1,r++[d - B - c+1000000000],1) ⟨h,by simp[hr],dr.snoc (by omega) (by omega),by simp,by simp,I.minus_step (v:=d - B - c+1000000000) (c':=1) hr hv (by omega)⟩ (by simp only;omega)
      exact⟨l,h1,.to mo_ [.mv 0 2] [0,1,5,6,7] [0] 1 (F0++[ye (decide_eq_true hn),wq 28 (d - B - c+1000000000) (d - B - c+1000000000) (by omega)]++F1 (d - B - c+1000000000)) hg (by kernel_rfl)⟩
    · obtain⟨l,h1,hg⟩:=ih (k+1,r++[d - B - c],0) ⟨h,by simp[hr],dr.snoc (by omega) (by omega),by simp,by simp,I.minus_step (v:=d - B - c) (c':=0) hr hv (by omega)⟩ (by simp only;omega)
      exact⟨l,h1,.to mo_ [.mv 0 2] [0,1,5,6,7] [0] 1 (F0++[na (decide_eq_false hn)]++F1 (d - B - c)) hg (by kernel_rfl)⟩
  · obtain rfl:k=a.length:=by omega
    have hc:=I.minus_last hr hv hb dr hle c0
    subst hc
    rw[I.val_take_over (Nat.le_refl _),I.val_take_over hb]at hv
    exact⟨r,⟨dr,by omega,hr⟩,fi [na (t:=decide ((a.length:Int)<((zs a).length:Int))) (decide_eq_false (by rw[zs_len];omega))] (by kernel_rfl) (by kernel_rfl)⟩
 obtain⟨l,h1,hg⟩:=key (0,[],0) ⟨Nat.zero_le _,rfl,I.Dig.nil,Int.le_refl _,by simp,by simp[I.val]⟩
 exact⟨l,h1,pf (by kernel_rfl) (.to mo_ [.ow 5 (.rw 3 1 [])] [0,1,5,6,7] [0] 1 [] hg (by kernel_rfl))⟩
theorem e_add3 (bx:I.Bd k x) (by_:I.Bd k y) (hk:k≤1000000000000):Pure PP 136 [.ag (dI x),.ag (dI y)] (.ag (dI (x+y))):=by
 have lx:=bd_len bx
 have ly:=bd_len by_
 by_cases h:decide (x<0)=decide (y<0)
 · obtain⟨l,⟨dl,vl⟩,hl⟩:=e_plus3 (dig_ (x:=x)) (dig_ (x:=y)) (by omega)
   have ho:=e_normal (decide (x<0)) dl
   rw[vl,val_,val_,show sg (decide (x<0)) ((x.natAbs:Int)+(y.natAbs:Int))=x+y by
    unfold sg
    by_cases h1:x<0<;>by_cases h2:y<0<;>simp[h1,h2]at h⊢ <;>omega]at ho
   exact tr [ye (t:=decide (x<0)==decide (y<0)) (by rw[h];simp),cl hl,cl ho] (by kernel_rfl)
 · have hc:=e_compared (digs_ok x.natAbs).1 (digs_ok y.natAbs).1
   rw[val_,val_]at hc
   by_cases hlt:(x.natAbs:Int)<(y.natAbs:Int)
   · obtain⟨l,⟨dl,vl,_⟩,hl⟩:=e_minus3 (dig_ (x:=y)) (dig_ (x:=x)) (by omega) (len_le (by omega)) (by rw[val_,val_];omega)
     have ho:=e_normal (decide (y<0)) dl
     rw[vl,val_,val_,show sg (decide (y<0)) ((y.natAbs:Int) - (x.natAbs:Int))=x+y by
      unfold sg
      by_cases h1:x<0<;>by_cases h2:y<0<;>simp[h1,h2]at h⊢ <;>omega]at ho
     rw[cmpZ_lt hlt]at hc
     exact tr [na (t:=decide (x<0)==decide (y<0)) (by simpa using h),cl hc,yt,cl hl,cl ho] (by kernel_rfl)
   · obtain⟨l,⟨dl,vl,_⟩,hl⟩:=e_minus3 (dig_ (x:=x)) (dig_ (x:=y)) (by omega) (len_le (by omega)) (by rw[val_,val_];omega)
     have ho:=e_normal (decide (x<0)) dl
     rw[vl,val_,val_,show sg (decide (x<0)) ((x.natAbs:Int) - (y.natAbs:Int))=x+y by
      unfold sg
      by_cases h1:x<0<;>by_cases h2:y<0<;>simp[h1,h2]at h⊢ <;>omega]at ho
     exact tr [na (t:=decide (x<0)==decide (y<0)) (by simpa using h),cl hc,na (t:=decide (cmpZ (x.natAbs:Int) (y.natAbs:Int)<0)) (by unfold cmpZ;rw[if_neg hlt];split<;>rfl),cl hl,cl ho] (by kernel_rfl)
end
end Go.Proofs.YtfdfbenejkmnlaaGreatDoor.E
namespace Go.Proofs.YtfdfbenejkmnlaaGreatDoor.E
open Go.RowKit
set_option linter.unusedVariables false
section
variable {x y:Int} {j k:Nat} {a b:List Int}
noncomputable abbrev fmul3:Func:=fnOf PP 134
noncomputable def m3H (x y:Int) (out:List Int):List HO:=[.bx 32 (dI x),.bx 32 (dI y),.bx 32 [bo false,.nl],.rw 3 1 (zs out)]
noncomputable def m3X (x y:Int) (i:Nat) (out:List Int):St:=at_ fmul3 [(2,.lp 0 0),(3,.lp 1 0),(4,.lp 2 0),(5,.ow 3),(6,ni i)] (m3H x y out)
noncomputable def m3Y (x y:Int) (i k:Nat) (out:List Int) (c:Int):St:=at_ fmul3 [(2,.lp 0 0),(3,.lp 1 0),(4,.lp 2 0),(5,.ow 3),(6,ni i),(7,ni c),(8,ni k)] (m3H x y out)
theorem mul3_inner {D:V} (ha:digs x.natAbs=a) (hb:digs y.natAbs=b) (da:I.Dig a) (db:I.Dig b) (hl:a.length+b.length≤1000000000000) {i:Nat} (hi:i<a.length) {d:Int} (hd:a[i]? =some d)
  (hD:∀ out,out.length=a.length+b.length→I.Dig out→I.val out=I.val (a.take (i+1))*I.val b→out.drop (i+1+b.length)=List.replicate (a.length - (i+1)) 0→Gd PP 134 D (lp fmul3 0) (m3X x y (i+1) out)):
  ∀ z:Nat×List Int×Int,(z.1≤b.length∧z.2.1.length=a.length+b.length∧I.Dig z.2.1∧0≤z.2.2∧z.2.2<1000000000∧I.val z.2.1+z.2.2*I.pw (i+z.1)=I.val (a.take i)*I.val b+d*I.val (b.take z.1)*I.pw i∧z.2.1.drop (i+b.length)=List.replicate (a.length - i) 0)→
   Gd PP 134 D (lp fmul3 1) (m3Y x y i z.1 z.2.1 z.2.2):=by
 obtain⟨d0,d1⟩:=da.get hd
 refine Gd.loop (fun z:Nat×List Int×Int=>m3Y x y i z.1 z.2.1 z.2.2) _ (fun z=>b.length - z.1) ?_
 rintro ⟨k,out,c⟩ ⟨hk,ho,dout,hc0,hc1,hv,hr⟩ ih
 simp only at hk ho dout hc0 hc1 hv hr ih⊢
 by_cases h:k<b.length
 · have eb:=num_el (l:=b) (i:=k) h
   generalize b.getD k 0=e at eb
   obtain⟨e0,e1⟩:=db.get eb
   have ey:=num_el (l:=out) (i:=i+k) (by omega)
   generalize out.getD (i+k) 0=y0 at ey
   obtain⟨y0',y1⟩:=dout.get ey
   have p0:0≤d*e:=Int.mul_nonneg d0 e0
   have p1:d*e≤999999999*999999999:=Int.mul_le_mul (by omega) (by omega) e0 (by omega)
   generalize hp:d*e=p at p0 p1
   have n0:0≤y0+p+c:=by omega
   have g1:=td_ n0 1000000000
   have g2:=tm_ n0 1000000000
   have hst:=I.mul_step (v:=y0+p+c) (c':=(y0+p+c) / 1000000000) ey hv eb (by rw[hp])
   rw[show y0+p+c - (y0+p+c) / 1000000000*1000000000=(y0+p+c) % 1000000000 by omega]at hst
   have hnx:=ih (k+1,out.set (i+k) ((y0+p+c) % 1000000000),(y0+p+c) / 1000000000) ⟨h,by simp[ho],dout.set (by omega) (by omega),by simp only;omega,by simp only;omega,hst,by simp only;rw[I.drop_set (by omega)];exact hr⟩ (by simp only;omega)
   have sa:=zs_at hd
   have sb:=zs_at eb
   rw[←ha]at sa
   rw[←hb]at sb
   exact .to mo_ [] [2,3,4,5,6,7,8] [0,1,2,3] 4 [ye (t:=decide ((k:Int)<((zs (digs y.natAbs)).length:Int))) (decide_eq_true (by rw[zs_len,hb];omega)),
     wq 35 ((i:Int)+(k:Int)) ((i+k:Nat):Int) (by omega),.sel _ _ _ (zs_at ey),.sel _ _ _ (zs_at ey),.sel _ _ _ sa,.sel _ _ _ sb,wq 48 (d*e) p (by omega),wq 49 (y0+p) (y0+p) (by omega),wq 51 (y0+p+c) (y0+p+c) (by omega),
     wq 55 ((i:Int)+(k:Int)) ((i+k:Nat):Int) (by omega),.eqv 57 (ni ((y0+p+c).tmod 1000000000)) (ni ((y0+p+c) % 1000000000)) (ni_eq g2),.sel _ _ _ (zs_at ey),.upd _ _ _ _ _ (zs_at ey) (zs_set out (i+k) ((y0+p+c) % 1000000000)),wq 60 ((y0+p+c).tdiv 1000000000) ((y0+p+c) / 1000000000) (by omega),inc 31 k (by omega)] hnx (by kernel_rfl)
 · obtain rfl:k=b.length:=by omega
   rw[I.val_take_over (Nat.le_refl _)]at hv
   have ey:out[i+b.length]? =some 0:=I.get_drop_rep (n:=a.length - i - 1) (by rw[hr];congr 1;omega)
   have hlast:=I.mul_last ey hv hd
   have hzl:((zs (digs y.natAbs)).length:Int)=(b.length:Int):=by rw[zs_len,hb]
   exact .to mo_ [] [2,3,4,5,6] [0,1,2,3] 4 [na (t:=decide ((b.length:Int)<((zs (digs y.natAbs)).length:Int))) (decide_eq_false (by omega)),.eqv 65 (ni ((zs (digs y.natAbs)).length:Int)) (ni b.length) (ni_eq hzl),wq 66 ((i:Int)+(b.length:Int)) ((i+b.length:Nat):Int) (by omega),.sel _ _ _ (zs_at ey),.upd _ _ _ _ _ (zs_at ey) (zs_set out (i+b.length) c),inc 24 i (by omega)]
    (hD (out.set (i+b.length) c) (by simp[ho]) (dout.set hc0 hc1) hlast (by
     rw[show i+1+b.length=i+b.length+1 by omega,I.drop_set (by omega),←List.drop_drop,hr,List.drop_replicate]
     congr 1)) (by kernel_rfl)
theorem e_mul3 (bx:I.Bd j x) (by_:I.Bd k y) (hk:j+k≤1000000000000):Pure PP 134 [.ag (dI x),.ag (dI y)] (.ag (dI (x*y))):=by
 have lx:=bd_len bx
 have ly:=bd_len by_
 have da:=dig_ (x:=x)
 have db:=dig_ (x:=y)
 have vx:=val_ (x:=x)
 have vy:=val_ (x:=y)
 have hsg:=sg_mul x y
 rw[←vx,←vy]at hsg
 have key:∀ z:Nat×List Int,(z.1≤(digs x.natAbs).length∧z.2.length=(digs x.natAbs).length+(digs y.natAbs).length∧I.Dig z.2∧I.val z.2=I.val ((digs x.natAbs).take z.1)*I.val (digs y.natAbs)∧z.2.drop (z.1+(digs y.natAbs).length)=List.replicate ((digs x.natAbs).length - z.1) 0)→
   Gd PP 134 (.ag (dI (x*y))) (lp fmul3 0) (m3X x y z.1 z.2):=by
  refine Gd.loop (fun z:Nat×List Int=>m3X x y z.1 z.2) _ (fun z=>(digs x.natAbs).length - z.1) ?_
  rintro ⟨i,out⟩ ⟨hi,ho,dout,hv,hr⟩ ih
  simp only at hi ho dout hv hr ih⊢
  by_cases h:i<(digs x.natAbs).length
  · have ea:=num_el (l:=digs x.natAbs) (i:=i) h
    generalize (digs x.natAbs).getD i 0=d at ea
    have hin:=mul3_inner (x:=x) (y:=y) rfl rfl da db (by omega) h ea (fun o h1 h2 h3 h4=>ih (i+1,o) ⟨h,h1,h2,h3,h4⟩ (by simp only;omega)) (0,out,0) ⟨Nat.zero_le _,ho,dout,Int.le_refl _,by simp,by simp[I.val,hv],hr⟩
    exact .to mo_ [] [2,3,4,5,6,7,8] [0,1,2,3] 4 [ye (t:=decide ((i:Int)<((zs (digs x.natAbs)).length:Int))) (decide_eq_true (by rw[zs_len];omega))] hin (by kernel_rfl)
  · rw[I.val_take_over (by omega)]at hv
    have hof:=e_normal (decide (x<0) != decide (y<0)) dout
    rw[hv,hsg]at hof
    exact fi [na (t:=decide ((i:Int)<((zs (digs x.natAbs)).length:Int))) (decide_eq_false (by rw[zs_len];omega)),cl hof] (by kernel_rfl) (by kernel_rfl)
 have h0:=key (0,List.replicate ((digs x.natAbs).length+(digs y.natAbs).length) 0) ⟨Nat.zero_le _,by simp,I.Dig.rep _,by simp[I.val_rep,I.val],by simp[List.drop_replicate]⟩
 simp only[m3X,m3H]at h0
 rw[←zs_rep]at h0
 exact pf (by kernel_rfl) (.to mo_ [] [2,3,4,5,6] [0,1,2,3] 4 [.eqv 12 (ni ((zs (digs x.natAbs)).length:Int)) (ni (digs x.natAbs).length) (by rw[zs_len]),.eqv 15 (ni ((zs (digs y.natAbs)).length:Int)) (ni (digs y.natAbs).length) (by rw[zs_len]),wq 16 (((digs x.natAbs).length:Int)+((digs y.natAbs).length:Int)) (((digs x.natAbs).length+(digs y.natAbs).length:Nat):Int) (by omega),.mk ((digs x.natAbs).length+(digs y.natAbs).length) (by omega)] h0 (by kernel_rfl))
theorem dg_tiny (h:a.length≤2):I.dg a 1*1000000000+I.dg a 0=I.val a:=by
 rcases two_len h with rfl|⟨p,rfl⟩|⟨p,q,rfl⟩<;>simp[I.dg,I.val]<;>omega
theorem e_tiny (hd:I.Dig a) (h:a.length≤2):Pure PP 181 [zl a] (ni (I.val a)):=by
 have h0:=I.dg_bd hd 0
 have h1:=I.dg_bd hd 1
 have h2:=dg_tiny h
 have c1:=e_digit a 1
 have c0:=e_digit a 0
 generalize I.dg a 1=p at*
 generalize I.dg a 0=q at*
 generalize I.val a=v at*
 exact tr [cl c1,wq 5 (p*1000000000) (p*1000000000) (by omega),cl c0,wq 8 (p*1000000000+q) v (by omega)] (by kernel_rfl)
theorem bd64 {d:Int} (h:W.Is64 d):I.Bd 64 d:=by
 unfold W.Is64 at h
 unfold I.Bd
 have:(2:Nat) ^ 64=18446744073709551616:=by decide
 omega
theorem e_times {d:Int} (hd:I.Dig a) (bv:I.Bd j (I.val a)) (h:W.Is64 d) (hk:j+64≤1000000000000):Pure PP 193 [zl a,ni d] (dg (I.val a*d)):=by
 have h1:=e_normal false hd
 rw[sg_f]at h1
 exact tr [cl h1,cl (e_of3 h),cl (e_mul3 bv (bd64 h) hk)] (by kernel_rfl)
end
end Go.Proofs.YtfdfbenejkmnlaaGreatDoor.E
namespace Go.Proofs.YtfdfbenejkmnlaaGreatDoor.E
open Go.RowKit
set_option linter.unusedVariables false
theorem dg_d0:dg 0= .sl []:=by unfold dg;rw[digs_z rfl];rfl
section
variable {x y:Int} {j k:Nat} {a b:List Int}
noncomputable abbrev fdv3:Func:=fnOf PP 182
noncomputable def d3X (a b:List Int) (i:Int) (r:Int) (out:List Int):St:=at_ fdv3 [(0,zl a),(1,zl b),(8,.ow 0),(9,dg r),(10,ni i)] [.rw 3 1 (zs out)]
noncomputable def d3Y (a b:List Int) (i:Int) (r:Int) (out:List Int) (lo hi:Int):St:=at_ fdv3 [(0,zl a),(1,zl b),(8,.ow 0),(9,dg r),(10,ni i),(12,ni lo),(13,ni hi)] [.rw 3 1 (zs out)]
def D3G (a b:List Int) (td:List Item) (σ:St):Prop:=∃ q,(I.Dig q∧I.val q=I.val a / I.val b)∧Gd PP 182 (.tu [.sl (zs q),dg (I.val a % I.val b)]) td σ
theorem can_d (x:Int):I.Can (digs x.natAbs):=(digs_ok _).1
theorem val_n {x:Int} (h:0≤x):I.val (digs x.natAbs)=x:=by rw[val_];omega
/-- One digit: the search. -/
theorem div3_search (cb:I.Can b) (bb:I.Bd j (I.val b)) (hj:j+64≤1000000000000) {i:Nat} {T:Int} {out:List Int} (hi:i<1000000000000) (hT0:0≤T) (hT:T<1000000000*I.val b) (ho:out[i]? =some 0)
  (hD:∀ lo,0≤lo→lo<1000000000→0≤T - I.val b*lo→T - I.val b*lo<I.val b→D3G a b (lp fdv3 0) (d3X a b ((i:Int) - 1) (T - I.val b*lo) (out.set i lo))):
  ∀ z:Int×Int,(0≤z.1∧z.1≤z.2∧z.2≤999999999∧I.val b*z.1≤T∧T<I.val b*(z.2+1))→D3G a b (lp fdv3 1) (d3Y a b i T out z.1 z.2):=by
 have b0:=I.val_nonneg cb.1
 have bT:I.Bd (30+j) T:=by
  have h1:I.Bd 30 1000000000:=by unfold I.Bd;decide
  exact(h1.mul bb).of_le (by omega)
 have lT:=bd_len bT
 refine Gd.loopE (fun z:Int×Int=>d3Y a b i T out z.1 z.2) _ (fun z=>(z.2 - z.1).toNat) ?_
 rintro ⟨lo,hi⟩ ⟨h0,h1,h2,h3,h4⟩ ih
 simp only at h0 h1 h2 h3 h4 ih⊢
 by_cases hlt:lo<hi
 · have n0:0≤lo+hi+1:=by omega
   have t1:=td_ n0 2
   have m0:0≤(lo+hi+1) / 2∧lo<(lo+hi+1) / 2∧(lo+hi+1) / 2≤hi:=by omega
   generalize hm:(lo+hi+1) / 2=m at*
   have hm0:0≤I.val b*m:=Int.mul_nonneg b0 (by omega)
   have ht:=e_times (a:=b) (d:=m) cb.1 bb ⟨by omega,by omega⟩ hj
   have hc:=e_compared (can_d (I.val b*m)) (can_d T)
   rw[val_n hm0,val_n hT0]at hc
   let F0:List F_:=[ye (decide_eq_true hlt),wq 69 (lo+hi) (lo+hi) (by omega),wq 70 (lo+hi+1) (lo+hi+1) (by omega),wq 71 ((lo+hi+1).tdiv 2) m (by omega),cl ht,cl hc]
   by_cases hle:I.val b*m≤T
   · obtain⟨q,h1,hg⟩:=ih (m,hi) ⟨by simp only;omega,by simp only;omega,by simp only;omega,hle,h4⟩ (by simp only;omega)
     exact⟨q,h1,.to mo_ [] [0,1,8,9,10,12,13] [0] 1 (F0++[ye (t:=decide (cmpZ (I.val b*m) T≤0)) (decide_eq_true (by unfold cmpZ;split<;>(try split)<;>omega))]) hg (by kernel_rfl)⟩
   · obtain⟨q,h1,hg⟩:=ih (lo,m - 1) ⟨by simp only;omega,by simp only;omega,by simp only;omega,h3,by simp only;rw[Int.sub_add_cancel];omega⟩ (by simp only;omega)
     exact⟨q,h1,.to mo_ [] [0,1,8,9,10,12,13] [0] 1 (F0++[na (t:=decide (cmpZ (I.val b*m) T≤0)) (decide_eq_false (by rw[cmpZ_gt (by omega)];decide)),wq 80 (m - 1) (m - 1) (by omega)]) hg (by kernel_rfl)⟩
 · obtain rfl:lo=hi:=by omega
   have hlo0:0≤I.val b*lo:=Int.mul_nonneg b0 (by omega)
   have hub:I.val b*(lo+1)=I.val b*lo+I.val b:=by rw[Int.mul_add,Int.mul_one]
   have ht:=e_times (a:=b) (d:=lo) cb.1 bb ⟨by omega,by omega⟩ hj
   obtain⟨l,⟨dl,vl,_⟩,hl⟩:=e_minus3 (a:=digs T.natAbs) (b:=digs (I.val b*lo).natAbs) dig_ dig_ (by omega) (len_le (by omega)) (by rw[val_n hT0,val_n hlo0];exact h3)
   have hn:=e_normal false dl
   rw[vl,sg_f,val_n hT0,val_n hlo0]at hn
   obtain⟨q,h1,hg⟩:=hD lo h0 (by omega) (by omega) (by omega)
   exact⟨q,h1,.to mo_ [] [0,1,8,9,10] [0] 1 [na (decide_eq_false hlt),cl ht,cl hl,cl hn,.sel _ _ _ (zs_at ho),.upd _ _ _ _ _ (zs_at ho) (zs_set out i lo),wq 49 ((i:Int) - 1) ((i:Int) - 1) (by omega)] hg (by kernel_rfl)⟩
theorem e_divided (ca : I.Can a) (cb : I.Can b) (hl : a.length ≤ 1000000000000) (bb : I.Bd j (I.val b)) (hj : j + 64 ≤ 1000000000000) (h0 : I.val b ≠ 0) : ∃ q, (I.Dig q ∧ I.val q = I.val a / I.val b) ∧ Pure PP 182 [zl a, zl b] (.tu [.sl (zs q), dg (I.val a % I.val b)]) := by
 have a0:=I.val_nonneg ca.1
 have b0:=I.val_nonneg cb.1
 have key : ∀ z : Nat × List Int × Int, (z.1 ≤ a.length ∧ I.Dig z.2.1 ∧ z.2.1.length = a.length - z.1 ∧ 0 ≤ z.2.2 ∧ z.2.2 < I.val b ∧ I.val (a.drop z.1) = I.val z.2.1 * I.val b + z.2.2) →
   D3G a b (lp fdv3 0) (d3X a b ((z.1:Int) - 1) z.2.2 (List.replicate z.1 0++z.2.1)):=by
  refine Gd.loopE (fun z:Nat×List Int×Int=>d3X a b ((z.1:Int) - 1) z.2.2 (List.replicate z.1 0++z.2.1)) _ (fun z=>z.1) ?_
  rintro ⟨k,qs,r⟩ ⟨hk,dq,lq,r0,r1,hv⟩ ih
  simp only at hk dq lq r0 r1 hv ih⊢
  cases k with
  |zero=>
   rw[List.drop_zero]at hv
   obtain⟨e1,e2⟩:=divq hv r0 r1
   rw[e2]
   exact⟨qs,⟨dq,e1.symm⟩,fi [na (t:=decide ((((0:Nat):Int) - 1)≥0)) rfl] (by kernel_rfl) (by kernel_rfl)⟩
  |succ i=>
   have ea:=num_el (l:=a) (i:=i) (by omega)
   generalize a.getD i 0=d at ea
   obtain⟨d0,d1⟩:=ca.1.get ea
   have hT0:0≤d+1000000000*r:=by omega
   have hT:d+1000000000*r<1000000000*I.val b:=by omega
   have hsr:=div3_search (a:=a) (j:=j) cb bb hj (i:=i) (out:=List.replicate (i+1) 0++qs) (by omega) hT0 hT (rep_at i qs) (fun lo l0 l1 l2 l3=>by
    rw[rep_put]
    exact ih (i,lo::qs,d+1000000000*r - I.val b*lo) ⟨by simp only;omega,I.Dig.cons l0 l1 dq,by simp only[List.length_cons];omega,l2,l3,I.short_step (q':=lo) (rest':=d+1000000000*r - I.val b*lo) ea hv (by grind)⟩ (by simp only;omega))
   have hc:=e_compared (can_d (d+1000000000*r)) cb
   rw[val_n hT0]at hc
   rw[show((i+1:Nat):Int) - 1=(i:Int)by omega]
   have hdl:I.Dig (d::digs r.natAbs):=I.Dig.cons d0 d1 dig_
   have hn:=e_normal false hdl
   rw[sg_f,show I.val (d::digs r.natAbs)=d+1000000000*r by simp only[I.val,val_n r0]]at hn
   have fin:∀ (hi:Int),(if d+1000000000*r<I.val b then hi=0 else hi=999999999)→∃ q,(I.Dig q∧I.val q=I.val a / I.val b)∧Gd PP 182 (.tu [.sl (zs q),dg (I.val a % I.val b)]) (lp fdv3 1) (d3Y a b i (d+1000000000*r) (List.replicate (i+1) 0++qs) 0 hi):=fun hi hh=>by
    split at hh
    · subst hh
      exact hsr (0,0) ⟨by simp,by simp,by simp,by simp only[Int.mul_zero];exact hT0,by simp only[Int.zero_add,Int.mul_one];assumption⟩
    · subst hh
      exact hsr (0,999999999) ⟨by simp,by simp,by simp,by simp only[Int.mul_zero];exact hT0,by simp only;omega⟩
   by_cases hlt:d+1000000000*r<I.val b
   · obtain⟨q,h1,hg⟩:=fin 0 (by rw[if_pos hlt])
     refine⟨q,h1, ?_⟩
     rw[cmpZ_lt hlt]at hc
     by_cases hr:r=0
     · subst hr
       rw[digs_z (x:=0) rfl]at hn
       unfold d3X
       rw[dg_d0]
       exact .to mo_ [] [0,1,8,9,10,12,13] [0] 1 [ye (t:=decide ((i:Int)≥0)) (by simp),.sel _ _ _ (zs_at ea),.ape [] rfl,cl hn,cl hc,yt] hg (by kernel_rfl)
     · have hnz:=digs_nz hr
       exact .to mo_ [] [0,1,8,9,10,12,13] [0] 1 [ye (t:=decide ((i:Int)≥0)) (by simp),.sel _ _ _ (zs_at ea),.aps [[ni d]] (zs (digs r.natAbs)) (zs (d::digs r.natAbs)) 1000000000010 1 rfl (by rw[zs_len];omega) (by
        have h5:=(can_d r).len cb.1 (by rw[val_n r0];omega)
        have h6:=bb.len cb (by omega)
        rw[zs_len,List.length_cons];omega) (zs_z1 _),cl hn,cl hc,yt] hg (by kernel_rfl)
   · obtain⟨q,h1,hg⟩:=fin 999999999 (by rw[if_neg hlt])
     refine⟨q,h1, ?_⟩
     have hcn:decide (cmpZ (d+1000000000*r) (I.val b)<0)=false:=by unfold cmpZ;rw[if_neg hlt];split<;>rfl
     by_cases hr:r=0
     · subst hr
       rw[digs_z (x:=0) rfl]at hn
       unfold d3X
       rw[dg_d0]
       exact .to mo_ [] [0,1,8,9,10,12,13] [0] 1 [ye (t:=decide ((i:Int)≥0)) (by simp),.sel _ _ _ (zs_at ea),.ape [] rfl,cl hn,cl hc,na hcn] hg (by kernel_rfl)
     · have hnz:=digs_nz hr
       exact .to mo_ [] [0,1,8,9,10,12,13] [0] 1 [ye (t:=decide ((i:Int)≥0)) (by simp),.sel _ _ _ (zs_at ea),.aps [[ni d]] (zs (digs r.natAbs)) (zs (d::digs r.natAbs)) 1000000000010 1 rfl (by rw[zs_len];omega) (by
        have h5:=(can_d r).len cb.1 (by rw[val_n r0];omega)
        have h6:=bb.len cb (by omega)
        rw[zs_len,List.length_cons];omega) (zs_z1 _),cl hn,cl hc,na hcn] hg (by kernel_rfl)
 have hbig:D3G a b (rg fdv3 5) (at_ fdv3 [(0,zl a),(1,zl b)] []):=by
  obtain⟨q,h1,hg⟩:=key (a.length,[],0) ⟨Nat.le_refl _,I.Dig.nil,by simp,Int.le_refl _,by simp only;omega,by simp[I.val]⟩
  refine⟨q,h1, ?_⟩
  simp only[d3X,List.append_nil]at hg
  rw[dg_d0,←zs_rep]at hg
  exact .to mo_ [.fz 9] [0,1,8,9,10] [0] 1 [.eqv 41 (ni ((zs a).length:Int)) (ni a.length) (by rw[zs_len]),.mk a.length (by omega),.eqv 44 (ni ((zs a).length:Int)) (ni a.length) (by rw[zs_len]),wq 45 ((a.length:Int) - 1) ((a.length:Int) - 1) (by omega)] hg (by kernel_rfl)
 by_cases h1:a.length≤2
 · by_cases h2:b.length≤2
   · have w1:=two_lt ca.1 h1
     have w2:=two_lt cb.1 h2
     obtain⟨n,hn⟩:∃ n:Nat,I.val b=((n+1:Nat):Int):=⟨(I.val b - 1).toNat,by omega⟩
     have t1:=e_tiny ca.1 h1
     have t2:=e_tiny cb.1 h2
     have hq0:0≤I.val a / I.val b:=Int.ediv_nonneg a0 b0
     have hr0:=Int.emod_nonneg (I.val a) h0
     have hr1:=Int.emod_lt_of_pos (I.val a) (show 0<I.val b by omega)
     have hqa:I.val a / I.val b≤I.val a:=Int.ediv_le_self _ a0
     have g1:=td_ a0 (I.val b)
     have g2:=tm_ a0 (I.val b)
     refine⟨digs (I.val a / I.val b).natAbs,⟨dig_,val_n hq0⟩, ?_⟩
     rw[hn]at t2 g1 g2 hq0 hqa hr0 hr1⊢
     generalize I.val a / ((n+1:Nat):Int)=qq at*
     generalize I.val a % ((n+1:Nat):Int)=rr at*
     exact tr [ye (t:=decide (((zs a).length:Int)≤2)) (decide_eq_true (by rw[zs_len];omega)),ye (t:=decide (((zs b).length:Int)≤2)) (decide_eq_true (by rw[zs_len];omega)),cl t1,cl t2,wq 28 ((I.val a).tdiv ((n+1:Nat):Int)) qq (by omega),cl (e_of3 (x:=qq) ⟨by omega,by omega⟩),cl t1,cl t2,.eqv 34 (ni ((I.val a).tmod ((n+1:Nat):Int))) (ni rr) (ni_eq g2),cl (e_of3 (x:=rr) ⟨by omega,by omega⟩)] (by kernel_rfl)
   · obtain⟨q,hq,hg⟩:=hbig
     exact⟨q,hq,pf (by kernel_rfl) (.to mo_ [] [0,1] [] 0 [ye (t:=decide (((zs a).length:Int)≤2)) (decide_eq_true (by rw[zs_len];omega)),na (t:=decide (((zs b).length:Int)≤2)) (decide_eq_false (by rw[zs_len];omega))] hg (by kernel_rfl))⟩
 · obtain⟨q,hq,hg⟩:=hbig
   exact⟨q,hq,pf (by kernel_rfl) (.to mo_ [] [0,1] [] 0 [na (t:=decide (((zs a).length:Int)≤2)) (decide_eq_false (by rw[zs_len];omega)),nf] hg (by kernel_rfl))⟩
end
end Go.Proofs.YtfdfbenejkmnlaaGreatDoor.E
