/-
 PACKAGE integer by the second engine: long division.
-/
import Derived.Test.YtfdfbenejkmnlaaGreatDoorFlow
import Derived.Test.YtfdfbenejkmnlaaGreatDoorEmO
namespace Go.Proofs.YtfdfbenejkmnlaaGreatDoor.I
/-- One step of taking away g times a number. -/
theorem sub_step {v L U:List Int} {j k:Nat} {g c e y c':Int} (hy:L[j+k]? =some y) (he:v[k]? =some e)
  (h:val L+g*val (v.take k)*pw j=val U+c*pw (j+k)):
  val (L.set (j+k) (y - g*e - c+c'*1000000000))+g*val (v.take (k+1))*pw j=val U+c'*pw (j+(k+1)):=by
 rw[val_set _ hy,val_take_succ he,show j+(k+1)=(j+k)+1 from rfl,pw_succ]
 have h1:=pw_add j k
 rw[h1]at h⊢
 grind
/-- One step of adding a number. -/
theorem back_step {v L:List Int} {j k:Nat} {R c e y:Int} (hy:L[j+k]? =some y) (he:v[k]? =some e)
  (h:val L+c*pw (j+k)=R+val (v.take k)*pw j):
  val (L.set (j+k) ((y+e+c) % 1000000000))+(y+e+c) / 1000000000*pw (j+(k+1))=R+val (v.take (k+1))*pw j:=by
 rw[val_set _ hy,val_take_succ he,show j+(k+1)=(j+k)+1 from rfl,pw_succ]
 have h1:=pw_add j k
 have h2:=Int.mul_ediv_add_emod (y+e+c) 1000000000
 rw[h1]at h⊢
 generalize (y+e+c) % 1000000000=a at*
 generalize (y+e+c) / 1000000000=b at*
 grind
/-- Where a round of the long division stands: the row U, the divisor v (m + 2 digits), the place j. -/
structure LD (U v:List Int) (m j:Nat):Prop where
 dU:Dig U
 dv:Dig v
 hn:v.length=m+2
 hj:j+m+2<U.length
 hv:pw (m+1)≤val v
 top:val (U.drop (j+1))<val v
/-- A round: the value X of the row from the place on, that of the divisor V, and the top digits. -/
structure Rd (X V p d1 d2 d3 v1 v2:Int):Prop where
 p0:0<p
 x:p*(d3+1000000000*(d2+1000000000*d1))≤X
 x1:X<p*(d3+1000000000*(d2+1000000000*d1)+1)
 v:p*(v2+1000000000*v1)≤V
 v1_:V<p*(v2+1000000000*v1+1)
 vp:1000000000*p≤V
 xv:X<1000000000*V
 d1_:d1≤v1
 v1p:1≤v1
theorem LD.zero {U v:List Int} {m j:Nat} (h:LD U v m j):val (U.drop (j+m+3))=0:=by
 have h1:=val_lt h.dv
 rw[h.hn]at h1
 have h2:=h.top
 have h3:=val_split (U.drop (j+1)) (k:=m+2) (by have:=h.hj;simp;omega)
 rw[List.drop_drop,show j+1+(m+2)=j+m+3 from by omega]at h3
 have h4:=val_nonneg ((h.dU.drop (j+1)).take (m+2))
 have h5:=val_nonneg (h.dU.drop (j+m+3))
 have h6:=pw_pos (m+2)
 by_cases h7:1≤val (U.drop (j+m+3))
 ·have h8:pw (m+2)*1≤pw (m+2)*val (U.drop (j+m+3)):=Int.mul_le_mul_of_nonneg_left h7 (by omega)
  omega
 ·omega
theorem LD.digits {U v:List Int} {m j:Nat} (h:LD U v m j):∃ d1 d2 d3 v1 v2,U[j+m+2]? =some d1∧U[j+m+1]? =some d2∧U[j+m]? =some d3∧v[m+1]? =some v1∧v[m]? =some v2∧
  Rd (val (U.drop j)) (val v) (pw m) d1 d2 d3 v1 v2:=by
 have hj:=h.hj
 have hn:=h.hn
 refine⟨U[j+m+2],U[j+m+1],U[j+m],v[m+1],v[m],List.getElem?_eq_getElem _,List.getElem?_eq_getElem _,List.getElem?_eq_getElem _,List.getElem?_eq_getElem _,List.getElem?_eq_getElem _, ?_⟩
 have hz:=h.zero
 have e1:=val_drop_succ (List.getElem?_eq_getElem (show j+m+2<U.length from hj))
 have e2:=val_drop_succ (List.getElem?_eq_getElem (show j+m+1<U.length by omega))
 have e3:=val_drop_succ (List.getElem?_eq_getElem (show j+m<U.length by omega))
 rw[show j+m+2+1=j+m+3 from rfl,hz]at e1
 rw[show j+m+1+1=j+m+2 from rfl]at e2
 have f1:=val_drop_succ (List.getElem?_eq_getElem (show m+1<v.length by omega))
 have f2:=val_drop_succ (List.getElem?_eq_getElem (show m<v.length by omega))
 rw[List.drop_eq_nil_of_le (show v.length≤m+1+1 by omega)]at f1
 have s1:=val_split (U.drop j) (k:=m) (by simp;omega)
 have s2:=val_split v (k:=m) (by omega)
 rw[List.drop_drop]at s1
 have b1:=val_nonneg ((h.dU.drop j).take m)
 have b2:=val_lt ((h.dU.drop j).take m)
 have b3:=val_nonneg (h.dv.take m)
 have b4:=val_lt (h.dv.take m)
 rw[List.length_take,List.length_drop,Nat.min_eq_left (by omega)]at b2
 rw[List.length_take,Nat.min_eq_left (by omega)]at b4
 have s3:=val_drop_succ (List.getElem?_eq_getElem (show j<U.length by omega))
 have dd:=h.dU.get (List.getElem?_eq_getElem (show j<U.length by omega))
 have d1b:=h.dU.get (List.getElem?_eq_getElem (show j+m+2<U.length by omega))
 have d2b:=h.dU.get (List.getElem?_eq_getElem (show j+m+1<U.length by omega))
 have v1b:=h.dv.get (List.getElem?_eq_getElem (show m+1<v.length by omega))
 have v2b:=h.dv.get (List.getElem?_eq_getElem (show m<v.length by omega))
 have ht:=h.top
 have hv:=h.hv
 have p0:=pw_pos m
 have t1:=val_split (U.drop (j+1)) (k:=m) (by simp;omega)
 rw[List.drop_drop,show j+1+m=j+m+1 from by omega]at t1
 have b5:=val_nonneg ((h.dU.drop (j+1)).take m)
 rw[pw_succ]at hv
 generalize U[j+m+2]=d1 at*
 generalize U[j+m+1]=d2 at*
 generalize U[j+m]=d3 at*
 generalize v[m+1]=v1 at*
 generalize v[m]=v2 at*
 generalize U[j]=d0 at*
 simp only[val]at f1
 rw[e1]at e2
 rw[e2]at e3 t1
 rw[e3]at s1
 rw[f1]at f2
 rw[f2]at s2
 generalize pw m=p at*
 have v1p:1≤v1:=by
  by_cases hc:1≤v1
  ·exact hc
  ·have:v1=0:=by omega
   subst this
   have h9:p*(v2+1000000000*(0+1000000000*0))≤p*999999999:=Int.mul_le_mul_of_nonneg_left (by omega) (by omega)
   omega
 have hd1:d1≤v1:=by
  by_cases hc:d1≤v1
  ·exact hc
  ·have h9:p*(v2+1000000000*(v1+1000000000*0)+1)≤p*(d2+1000000000*(d1+1000000000*0)):=Int.mul_le_mul_of_nonneg_left (by omega) (by omega)
   rw[Int.mul_add,Int.mul_one]at h9
   omega
 refine⟨p0, ?_, ?_, ?_, ?_,hv,by omega,hd1,v1p⟩
 ·rw[Int.mul_zero,Int.add_zero]at s1;omega
 ·rw[Int.mul_zero,Int.add_zero]at s1;rw[Int.mul_add p _ 1];omega
 ·rw[Int.mul_zero,Int.add_zero]at s2;omega
 ·rw[Int.mul_zero,Int.add_zero]at s2;rw[Int.mul_add p _ 1];omega
/-- A guess of the quotient's digit, and the rest of the two top digits. -/
structure Gs (X V d1 d2 v1 g r:Int):Prop where
 g0:0≤g
 g1:g≤2000000000
 r0:0≤r
 e:g*v1+r=d1*1000000000+d2
 x:X<(g+1)*V
/-- A guess that is right, or one too many. -/
structure Gd (X V g:Int):Prop where
 g0:0≤g
 g1:g<1000000000
 x:X<(g+1)*V
 v:g*V≤X+V
section
variable {X V p d1 d2 d3 v1 v2 g r:Int}
theorem Rd.start (h:Rd X V p d1 d2 d3 v1 v2) (h1:0≤d1) (h1':d1<1000000000) (h2:0≤d2) (h2':d2<1000000000) (h3':d3<1000000000) (h4:0≤v2):
  Gs X V d1 d2 v1 ((d1*1000000000+d2) / v1) ((d1*1000000000+d2) % v1)∧(d1*1000000000+d2) % v1<v1:=by
 have hv1:=h.v1p
 have e1:=Int.mul_ediv_add_emod (d1*1000000000+d2) v1
 have e2:=Int.emod_nonneg (d1*1000000000+d2) (show v1≠0 by omega)
 have e3:=Int.emod_lt_of_pos (d1*1000000000+d2) (show 0<v1 by omega)
 have e4:0≤(d1*1000000000+d2) / v1:=Int.ediv_nonneg (by omega) (by omega)
 generalize (d1*1000000000+d2) % v1=r at*
 generalize (d1*1000000000+d2) / v1=g at*
 have hd:=h.d1_
 refine⟨⟨e4, ?_,e2,by rw[Int.mul_comm];exact e1, ?_⟩,e3⟩
 ·by_cases hc:g≤2000000000
  ·exact hc
  ·have:v1*2000000001≤v1*g:=Int.mul_le_mul_of_nonneg_left (by omega) (by omega)
   omega
 ·have k1:(g+1)*(v2+1000000000*v1)≥1000000000*(d1*1000000000+d2+1):=by
   have:(g+1)*(v2+1000000000*v1)=g*v2+v2+1000000000*(v1*g+v1):=by grind
   have:0≤g*v2:=Int.mul_nonneg e4 h4
   omega
  have k2:p*(d3+1000000000*(d2+1000000000*d1)+1)≤p*((g+1)*(v2+1000000000*v1)):=Int.mul_le_mul_of_nonneg_left (by omega) (by have:=h.p0;omega)
  have k3:(g+1)*(p*(v2+1000000000*v1))≤(g+1)*V:=Int.mul_le_mul_of_nonneg_left h.v (by omega)
  have k4:(g+1)*(p*(v2+1000000000*v1))=p*((g+1)*(v2+1000000000*v1)):=by grind
  have:=h.x1
  omega
theorem Rd.less (h:Rd X V p d1 d2 d3 v1 v2) (hg:Gs X V d1 d2 v1 g r) (hd2:d2<1000000000) (h3:0≤d3) (hr:r<1000000000)
  (hc:1000000000≤g∨r*1000000000+d3<g*v2):Gs X V d1 d2 v1 (g - 1) (r+v1)∧(1000000000≤r+v1→g - 1<1000000000):=by
 have hg1:1≤g:=by
  have:=hg.g0;have:=hg.r0
  rcases hc with hc|hc
  ·omega
  ·by_cases h0:g=0
   ·subst h0;omega
   ·omega
 have hv1:=h.v1p
 have e:=hg.e
 have hx:X<g*V:=by
  rcases hc with hc|hc
  ·have h5:=h.xv
   have h6:1000000000*V≤g*V:=Int.mul_le_mul_of_nonneg_right hc (by have:=h.vp;have:=h.p0;omega)
   omega
  ·have k1:d3+1000000000*(d2+1000000000*d1)+1≤g*(v2+1000000000*v1):=by
    have:g*(v2+1000000000*v1)=g*v2+1000000000*(g*v1):=by grind
    omega
   have k2:p*(d3+1000000000*(d2+1000000000*d1)+1)≤p*(g*(v2+1000000000*v1)):=Int.mul_le_mul_of_nonneg_left k1 (by have:=h.p0;omega)
   have k3:g*(p*(v2+1000000000*v1))≤g*V:=Int.mul_le_mul_of_nonneg_left h.v (by omega)
   have k4:g*(p*(v2+1000000000*v1))=p*(g*(v2+1000000000*v1)):=by grind
   have:=h.x1
   omega
 refine⟨⟨by omega,by have:=hg.g1;omega,by have:=hg.r0;omega,by rw[Int.sub_mul,Int.one_mul];omega,by rw[Int.sub_add_cancel];exact hx⟩,fun hb=> ?_⟩
 by_cases k0:g - 1<1000000000
 ·exact k0
 ·have h5:1000000001*v1≤g*v1:=Int.mul_le_mul_of_nonneg_right (by omega) (by omega)
  have:=h.d1_
  have:=hg.r0
  omega
theorem Rd.done (h:Rd X V p d1 d2 d3 v1 v2) (hg:Gs X V d1 d2 v1 g r) (hv2:v2<1000000000) (h3:0≤d3) (hb:g<1000000000) (hc:1000000000≤r∨g*v2≤r*1000000000+d3):Gd X V g:=by
 have g0:=hg.g0
 have k0:g*v2≤r*1000000000+d3:=by
  rcases hc with hc|hc
  ·have h5:g*v2≤g*999999999:=Int.mul_le_mul_of_nonneg_left (by omega) g0
   omega
  ·exact hc
 have e:=hg.e
 have k1:g*(v2+1000000000*v1)≤d3+1000000000*(d2+1000000000*d1):=by
  have:g*(v2+1000000000*v1)=g*v2+1000000000*(g*v1):=by grind
  omega
 have p0:=h.p0
 have k2:p*(g*(v2+1000000000*v1))≤p*(d3+1000000000*(d2+1000000000*d1)):=Int.mul_le_mul_of_nonneg_left k1 (by omega)
 have k3:g*V≤g*(p*(v2+1000000000*v1+1)):=Int.mul_le_mul_of_nonneg_left (by have:=h.v1_;omega) g0
 have k4:g*(p*(v2+1000000000*v1+1))=p*(g*(v2+1000000000*v1))+g*p:=by grind
 have k5:g*p≤1000000000*p:=Int.mul_le_mul_of_nonneg_right (by omega) (by omega)
 have:=h.x
 have:=h.vp
 exact⟨g0,hb,hg.x,by omega⟩
end
/-- The end of a round: g digits taken away (g right, or one too many), and what the digit above keeps. -/
theorem LD.sign {U v M:List Int} {m j:Nat} {g c d1:Int} (h:LD U v m j) (hM:Dig M) (hl:M.length=U.length) (ht:M.take j=U.take j) (hd:M.drop (j+m+2)=U.drop (j+m+2)) (h1:U[j+m+2]? =some d1)
  (hv:val M+g*val v*pw j=val U+c*pw (j+m+2)):
  ∃ low,0≤low∧low<pw (m+2)∧val ((M.set (j+m+2) (d1 - c)).drop j)=val (U.drop j) - g*val v∧val (U.drop j) - g*val v=low+pw (m+2)*(d1 - c):=by
 have hj:=h.hj
 have hM1:M[j+m+2]? =some d1:=by
  have:=congrArg (fun l=>l[0]?) hd
  simpa[h1]using this
 have hz:=h.zero
 refine⟨val ((M.drop j).take (m+2)),val_nonneg ((hM.drop j).take _), ?_, ?_, ?_⟩
 ·have:=val_lt ((hM.drop j).take (m+2))
  rwa [List.length_take,List.length_drop,Nat.min_eq_left (by omega)]at this
 ·have e1:=val_set (l:=M) (d1 - c) hM1
  have e2:=val_split (M.set (j+m+2) (d1 - c)) (k:=j) (by simp;omega)
  have e3:=val_split U (k:=j) (by omega)
  rw[List.take_set_of_le (by omega),ht]at e2
  have hp:=pw_pos j
  rw[e1]at e2
  have e4:pw j*val ((M.set (j+m+2) (d1 - c)).drop j)=pw j*(val (U.drop j) - g*val v):=by grind
  exact Int.eq_of_mul_eq_mul_left (by omega) e4
 ·have e2:=val_split M (k:=j) (by omega)
  have e3:=val_split U (k:=j) (by omega)
  have e5:=val_split (M.drop j) (k:=m+2) (by simp;omega)
  have e6:=val_drop_succ h1
  rw[show j+m+2+1=j+m+3 from rfl,hz]at e6
  rw[List.drop_drop,show j+(m+2)=j+m+2 from by omega,hd,e6]at e5
  rw[ht]at e2
  have hp:=pw_pos j
  have hpa:pw (j+m+2)=pw j*pw (m+2):=by rw[←pw_add];rfl
  rw[hpa]at hv
  have e4:pw j*(val (U.drop j) - g*val v)=pw j*(val ((M.drop j).take (m+2))+pw (m+2)*(d1 - c)):=by grind
  exact Int.eq_of_mul_eq_mul_left (by omega) e4
/-- A round that took the right digit. -/
theorem LD.next {U v M:List Int} {m j:Nat} {g c d1:Int} (h:LD U v m j) (hM:Dig M) (hl:M.length=U.length) (ht:M.take j=U.take j) (hd:M.drop (j+m+2)=U.drop (j+m+2)) (h1:U[j+m+2]? =some d1)
  (hv:val M+g*val v*pw j=val U+c*pw (j+m+2)) (h0:g*val v≤val (U.drop j)) (h2:val (U.drop j)<(g+1)*val v):
  d1 - c=0∧Dig (M.set (j+m+2) (d1 - c))∧(M.set (j+m+2) (d1 - c)).length=U.length∧val (M.set (j+m+2) (d1 - c))+g*val v*pw j=val U∧val ((M.set (j+m+2) (d1 - c)).drop j)<val v:=by
 obtain⟨low,hl0,hl1,he,hx⟩:=h.sign hM hl ht hd h1 hv
 have hV:=val_lt h.dv
 rw[h.hn]at hV
 have hM1:M[j+m+2]? =some d1:=by
  have:=congrArg (fun l=>l[0]?) hd
  simpa[h1]using this
 rw[Int.add_mul,Int.one_mul]at h2
 have hp:=pw_pos (m+2)
 have h3:d1 - c=0:=by
  by_cases ha:1≤d1 - c
  ·have:pw (m+2)*1≤pw (m+2)*(d1 - c):=Int.mul_le_mul_of_nonneg_left ha (by omega)
   omega
  ·by_cases hb:d1 - c≤ -1
   ·have:pw (m+2)*(d1 - c)≤pw (m+2)*(-1):=Int.mul_le_mul_of_nonneg_left hb (by omega)
    omega
   ·omega
 refine⟨h3,hM.set (by omega) (by omega),by rw[List.length_set];exact hl, ?_,by rw[he];omega⟩
 rw[val_set _ hM1]
 grind
/-- The digit above is less than 0 exactly if too much was taken. -/
theorem LD.neg {U v M:List Int} {m j:Nat} {g c d1:Int} (h:LD U v m j) (hM:Dig M) (hl:M.length=U.length) (ht:M.take j=U.take j) (hd:M.drop (j+m+2)=U.drop (j+m+2)) (h1:U[j+m+2]? =some d1)
  (hv:val M+g*val v*pw j=val U+c*pw (j+m+2)):d1 - c<0↔val (U.drop j)<g*val v:=by
 obtain⟨low,hl0,hl1,he,hx⟩:=h.sign hM hl ht hd h1 hv
 have hp:=pw_pos (m+2)
 constructor
 ·intro ha
  have:pw (m+2)*(d1 - c)≤pw (m+2)*(-1):=Int.mul_le_mul_of_nonneg_left (by omega) (by omega)
  omega
 ·intro ha
  by_cases hb:d1 - c<0
  ·exact hb
  ·have:0≤pw (m+2)*(d1 - c):=Int.mul_nonneg (by omega) (by omega)
   omega
/-- The scale makes the divisor's digits no more, and the beginning. -/
theorem scale_ok {b:List Int} {n:Nat} {t:Int} (cb:Can b) (hn:b.length=n+1) (ht:b[n]? =some t):
  1≤t∧t<1000000000∧1≤1000000000 / (t+1)∧1000000000 / (t+1)<1000000000∧val b*(1000000000 / (t+1))<pw (n+1)∧pw n≤val b*(1000000000 / (t+1)):=by
 have htb:=cb.1.get ht
 have ht0:t≠0:=cb.2 t (by rw[List.getLast?_eq_getElem?,hn];exact ht)
 have hs1:1≤1000000000 / (t+1):=(Int.le_ediv_iff_mul_le (by omega)).2 (by omega)
 have hs2:1000000000 / (t+1)<1000000000:=Int.ediv_lt_of_lt_mul (by omega) (by omega)
 have hs3:=Int.ediv_mul_le 1000000000 (show t+1≠0 by omega)
 refine⟨by omega,htb.2,hs1,hs2, ?_, ?_⟩
 ·have h1:=val_take_succ ht
  rw[val_take_over (by omega)]at h1
  have h2:=val_lt (cb.1.take n)
  rw[List.length_take,Nat.min_eq_left (by omega)]at h2
  generalize 1000000000 / (t+1)=s at*
  have hp:=pw_pos n
  have h3:val b+1≤pw n*(t+1):=by rw[Int.mul_add];omega
  have h4:(val b+1)*s≤pw n*(t+1)*s:=Int.mul_le_mul_of_nonneg_right h3 (by omega)
  have h5:pw n*(t+1)*s=pw n*(s*(t+1)):=by grind
  have h6:pw n*(s*(t+1))≤pw n*1000000000:=Int.mul_le_mul_of_nonneg_left hs3 (by omega)
  rw[pw_succ]
  rw[Int.add_mul]at h4
  omega
 ·have h1:=cb.pos (by intro h;rw[h]at hn;simp at hn)
  rw[hn,Nat.add_sub_cancel]at h1
  generalize 1000000000 / (t+1)=s at*
  have hp:=pw_pos n
  have h2:val b*1≤val b*s:=Int.mul_le_mul_of_nonneg_left hs1 (by omega)
  omega
/-- Digits of so small a value: the last one is 0. -/
theorem take_low {l:List Int} {n:Nat} (hd:Dig l) (hl:l.length=n+1) (h:val l<pw n):val (l.take n)=val l:=by
 obtain⟨x,hx⟩:∃ x,l[n]? =some x:=⟨_,List.getElem?_eq_getElem (by omega)⟩
 have h1:=val_take_succ hx
 rw[val_take_over (by omega)]at h1
 have hb:=hd.get hx
 have h2:=val_nonneg (hd.take n)
 have hp:=pw_pos n
 have:x=0:=by
  by_cases hc:1≤x
  ·have:pw n*1≤pw n*x:=Int.mul_le_mul_of_nonneg_left hc (by omega)
   omega
  ·omega
 subst this
 omega
/-- Digits of a value below the power: what lies behind is 0. -/
theorem take_lowN {l:List Int} {n:Nat} (hd:Dig l) (hl:n≤l.length) (h:val l<pw n):val (l.take n)=val l:=by
 have h1:=val_split l hl
 have h2:=val_nonneg (hd.take n)
 have h3:=val_nonneg (hd.drop n)
 have hp:=pw_pos n
 by_cases hc:1≤val (l.drop n)
 ·have:pw n*1≤pw n*val (l.drop n):=Int.mul_le_mul_of_nonneg_left hc (by omega)
  omega
 ·have h4:val (l.drop n)=0:=by omega
  rw[h4]at h1
  omega
/-- The first round. -/
theorem LD.first {a b ua vb:List Int} {m:Nat} {s:Int} (da:Dig a) (du:Dig ua) (dv:Dig vb) (hba:m+2≤a.length) (hlu:ua.length=a.length+1) (hlv:vb.length=m+2) (hu:val ua=val a*s) (hv:val vb=val b*s) (hs:1≤s) (hp:pw (m+1)≤val b) (hp2:pw (m+1)≤val vb):
  LD ua vb m (a.length - (m+2)):=by
 refine⟨du,dv,hlv,by omega,hp2, ?_⟩
 obtain⟨k,hk⟩:∃ k,a.length=k+(m+2):=⟨a.length - (m+2),by omega⟩
 rw[show a.length - (m+2)+1=k+1 from by omega]
 have h1:=val_split ua (k:=k+1) (by omega)
 have h2:=val_nonneg (du.take (k+1))
 have h3:=val_lt da
 rw[hk,show k+(m+2)=(k+1)+(m+1)from by omega,pw_add]at h3
 have h4:val a*s<pw (k+1)*pw (m+1)*s:=Int.mul_lt_mul_of_pos_right h3 (by omega)
 have hpk:=pw_pos (k+1)
 have h5:pw (k+1)*val (ua.drop (k+1))<pw (k+1)*(pw (m+1)*s):=by
  rw[←Int.mul_assoc];omega
 have h6:=Int.lt_of_mul_lt_mul_left h5 (by omega)
 have h7:pw (m+1)*s≤val b*s:=Int.mul_le_mul_of_nonneg_right hp (by omega)
 omega
/-- After the last round: the rest, divided by the scale. -/
theorem last_rest {A Bv Q Uv V s q rest:Int} (hs:1≤s) (hV:V=Bv*s) (hU:A*s=Uv+Q*V) (hU1:Uv<V) (hq:Uv=q*s+rest) (h0:0≤rest) (h1:rest<s):rest=0∧A=Q*Bv+q∧q<Bv:=by
 subst hV
 have e1:s*(A - Q*Bv - q)=rest:=by grind
 have h2:A - Q*Bv - q=0:=by
  by_cases ha:1≤A - Q*Bv - q
  ·have:s*1≤s*(A - Q*Bv - q):=Int.mul_le_mul_of_nonneg_left ha (by omega)
   omega
  ·by_cases hb:A - Q*Bv - q≤ -1
   ·have:s*(A - Q*Bv - q)≤s*(-1):=Int.mul_le_mul_of_nonneg_left hb (by omega)
    omega
   ·omega
 rw[h2,Int.mul_zero]at e1
 refine⟨e1.symm,by omega, ?_⟩
 have h3:q*s<Bv*s:=by omega
 exact Int.lt_of_mul_lt_mul_right h3 (by omega)
end Go.Proofs.YtfdfbenejkmnlaaGreatDoor.I
namespace Go.Proofs.YtfdfbenejkmnlaaGreatDoor.E
open Go.RowKit
set_option linter.unusedVariables false
/-- Where the rounds stand: the row U, the scaled divisor V, the digits that were found, so many rounds left. -/
structure LA (a b:List Int) (s:Int) (V:List Int) (m gk:Nat) (U qs:List Int):Prop where
 lu:U.length=a.length+1
 du:I.Dig U
 dq:I.Dig qs
 lq:gk+qs.length+m+1=a.length
 e:I.val a*s=I.val U+I.val qs*I.pw gk*I.val V
 top:I.val (U.drop gk)<I.val V
theorem LA.next {a b V U qs L:List Int} {s:Int} {m j:Nat} {g:Int} (h:LA a b s V m (j+1) U qs) (g0:0≤g) (g1:g<1000000000) (dL:I.Dig L) (hl:L.length=U.length) (e:I.val L+g*I.val V*I.pw j=I.val U) (top:I.val (L.drop j)<I.val V):LA a b s V m j L (g::qs):=by
 refine⟨by rw[hl,h.lu],dL,h.dq.cons_ g0 g1,by have:=h.lq;simp only[List.length_cons];omega, ?_,top⟩
 have h1:=h.e
 rw[I.pw_succ]at h1
 simp only[I.val]
 grind
/-- Where the taking away stands: k digits of the divisor, times g, are taken from the row U; c is borrowed. -/
structure SubA (V U:List Int) (j k:Nat) (g c:Int) (M:List Int):Prop where
 lm:M.length=U.length
 dm:I.Dig M
 tk:M.take j=U.take j
 dp:M.drop (j+k)=U.drop (j+k)
 e:I.val M+g*I.val (V.take k)*I.pw j=I.val U+c*I.pw (j+k)
theorem SubA.start {V U:List Int} {j:Nat} {g:Int} (du:I.Dig U):SubA V U j 0 g 0 U:=⟨rfl,du,rfl,rfl,by simp[I.val]⟩
theorem drop_more {M U:List Int} {j k:Nat} {x:Int} (h:M.drop (j+k)=U.drop (j+k)):(M.set (j+k) x).drop (j+(k+1))=U.drop (j+(k+1)):=by
 rw[I.drop_set (by omega)]
 have:=congrArg (List.drop 1) h
 rwa [List.drop_drop,List.drop_drop]at this
theorem SubA.step {V U M:List Int} {j k:Nat} {g c e y x c':Int} (h:SubA V U j k g c M) (hy:M[j+k]? =some y) (he:V[k]? =some e) (hx:x=y - g*e - c+c'*1000000000) (x0:0≤x) (x1:x<1000000000):SubA V U j (k+1) g c' (M.set (j+k) x):=by
 have hs:=I.sub_step (c':=c') hy he h.e
 rw[←hx]at hs
 exact⟨by rw[List.length_set];exact h.lm,h.dm.set x0 x1,by rw[List.take_set_of_le (by omega)];exact h.tk,drop_more h.dp,hs⟩
theorem SubA.top {V U M:List Int} {n j:Nat} {g c d1:Int} (h:SubA V U j n g c M) (hd1:U[j+n]? =some d1):M[j+n]? =some d1:=by
 have:=congrArg (fun l=>l[0]?) h.dp
 simpa[hd1]using this
theorem SubA.fin {V U M:List Int} {m j:Nat} {g c d1:Int} (h:SubA V U j (m+2) g c M) (hLD:I.LD U V m j) (hd1:U[j+(m+2)]? =some d1):
  (d1 - c<0↔I.val (U.drop j)<g*I.val V)∧(I.Gd (I.val (U.drop j)) (I.val V) g→¬d1 - c<0→I.Dig (M.set (j+(m+2)) (d1 - c))∧(M.set (j+(m+2)) (d1 - c)).length=U.length∧I.val (M.set (j+(m+2)) (d1 - c))+g*I.val V*I.pw j=I.val U∧I.val ((M.set (j+(m+2)) (d1 - c)).drop j)<I.val V):=by
 have he:=h.e
 rw[List.take_of_length_le (by rw[hLD.hn];exact Nat.le_refl _)]at he
 have h1:=hLD.neg h.dm h.lm h.tk h.dp hd1 he
 refine⟨h1,fun hG hneg=> ?_⟩
 have h2:=hLD.next h.dm h.lm h.tk h.dp hd1 he (by
  by_cases hc:g*I.val V≤I.val (U.drop j)
  · exact hc
  · exact absurd (h1.2 (by omega)) hneg) hG.x
 exact h2.2
/-- Where the adding back stands: k digits of the divisor are added; the digit on top is kept apart. -/
structure BackA (V M0:List Int) (j k:Nat) (c:Int) (M:List Int):Prop where
 lm:M.length=M0.length
 dm:I.Dig M
 tk:M.take j=M0.take j
 dp:M.drop (j+k)=M0.drop (j+k)
 e:I.val M+c*I.pw (j+k)=I.val M0+I.val (V.take k)*I.pw j
theorem BackA.start {V M:List Int} {j:Nat} (dm:I.Dig M):BackA V M j 0 0 M:=⟨rfl,dm,rfl,rfl,by simp[I.val]⟩
theorem BackA.step {V M0 M:List Int} {j k:Nat} {c e y:Int} (h:BackA V M0 j k c M) (hy:M[j+k]? =some y) (he:V[k]? =some e):BackA V M0 j (k+1) ((y+e+c) / 1000000000) (M.set (j+k) ((y+e+c) % 1000000000)):=
 ⟨by rw[List.length_set];exact h.lm,h.dm.set (by omega) (by omega),by rw[List.take_set_of_le (by omega)];exact h.tk,drop_more h.dp,I.back_step hy he h.e⟩
theorem BackA.fin {V U M M2:List Int} {m j:Nat} {g c c2 d1:Int} (h:SubA V U j (m+2) g c M) (h2:BackA V M j (m+2) c2 M2) (hLD:I.LD U V m j) (hd1:U[j+(m+2)]? =some d1) (hG:I.Gd (I.val (U.drop j)) (I.val V) g) (hneg:d1 - c<0):
  0≤g - 1∧I.Dig (M2.set (j+(m+2)) (d1 - c+c2))∧(M2.set (j+(m+2)) (d1 - c+c2)).length=U.length∧I.val (M2.set (j+(m+2)) (d1 - c+c2))+(g - 1)*I.val V*I.pw j=I.val U∧I.val ((M2.set (j+(m+2)) (d1 - c+c2)).drop j)<I.val V:=by
 have h1:=(h.fin hLD hd1).1.1 hneg
 have he:=h.e
 have he2:=h2.e
 rw[List.take_of_length_le (by rw[hLD.hn];exact Nat.le_refl _)]at he he2
 have hx0:=I.val_nonneg (hLD.dU.drop j)
 have hg:0≤g - 1:=by
  have:=hG.g0
  by_cases h0:g=0
  · subst h0;omega
  · omega
 have hGv:=hG.v
 have h3:=hLD.next (M:=M2) (g:=g - 1) (c:=c - c2) h2.dm (h2.lm.trans h.lm) (h2.tk.trans h.tk) (h2.dp.trans h.dp) hd1 (by rw[show j+m+2=j+(m+2)from rfl];generalize I.pw (j+(m+2))=P at*;generalize I.pw j=p at*;generalize I.val V=v at*;grind) (by rw[Int.sub_mul];omega) (by rw[Int.sub_add_cancel];exact h1)
 rw[show d1 - (c - c2)=d1 - c+c2 from by omega]at h3
 exact⟨hg,h3.2⟩
/-- What long returns. -/
def LongQ (a b:List Int) (x:List Int×List Int):Prop:=I.Dig x.1∧I.Dig x.2∧I.val a=I.val x.1*I.val b+I.val x.2∧I.val x.2<I.val b∧x.1.length≤a.length∧x.2.length≤a.length
noncomputable abbrev flong:Func:=fnOf PP 186
def LG (a b:List Int) (td:List Item) (σ:St):Prop:=∃ x,LongQ a b x∧Gd PP 186 (.tu [.sl (zs x.1),.sl (zs x.2)]) td σ
/-- Between the rounds; at the guess; at the taking away; at the adding back. -/
noncomputable def lgX (sn m:Nat) (V:List Int) (gk:Int) (U q:List Int):St:=at_ flong [(6,ni ((sn+1:Nat):Int)),(7,.ow 0),(8,zl V),(9,ni ((m+2:Nat):Int)),(10,.ow 1),(11,ni gk)] [.rw 3 1 (zs U),.rw 3 1 (zs q)]
noncomputable def lgY (sn m:Nat) (V:List Int) (j:Int) (U q:List Int) (g r:Int):St:=at_ flong [(6,ni ((sn+1:Nat):Int)),(7,.ow 0),(8,zl V),(9,ni ((m+2:Nat):Int)),(10,.ow 1),(11,ni j),(13,ni g),(14,ni r)] [.rw 3 1 (zs U),.rw 3 1 (zs q)]
noncomputable def lgZ (sn m:Nat) (V:List Int) (j:Int) (M q:List Int) (g c:Int) (k:Nat):St:=at_ flong [(6,ni ((sn+1:Nat):Int)),(7,.ow 0),(8,zl V),(9,ni ((m+2:Nat):Int)),(10,.ow 1),(11,ni j),(13,ni g),(15,ni c),(117,ni ((m+2:Nat):Int)),(118,ni k)] [.rw 3 1 (zs M),.rw 3 1 (zs q)]
noncomputable def lgW (sn m:Nat) (V:List Int) (j:Int) (M q:List Int) (g c:Int) (k:Nat):St:=at_ flong [(6,ni ((sn+1:Nat):Int)),(7,.ow 0),(8,zl V),(9,ni ((m+2:Nat):Int)),(10,.ow 1),(11,ni j),(13,ni g),(15,ni c),(172,ni ((m+2:Nat):Int)),(173,ni k)] [.rw 3 1 (zs M),.rw 3 1 (zs q)]
section
variable {a b V U q:List Int} {sn m j:Nat}
/-- The adding back. -/
theorem long_back {M0:List Int} {g t:Int} (dV:I.Dig V) (hV:V.length=m+2) (hj:j+(m+2)<M0.length) (hjj:j+(m+2)≤1000000000000) (hq:q[j]? =some 0) (hg:0≤g∧g<1000000000) (ht: -1000000000≤t∧t<1000000000)
  (hD:∀ M c,BackA V M0 j (m+2) c M→0≤c→c≤1→LG a b (lp flong 0) (lgX sn m V ((j:Int) - 1) (M.set (j+(m+2)) (t+c)) (q.set j g))):
  ∀ z:Nat×List Int×Int,(z.1≤m+2∧0≤z.2.2∧z.2.2≤1∧BackA V M0 j z.1 z.2.2 z.2.1)→LG a b (lp flong 3) (lgW sn m V j (z.2.1.set (j+(m+2)) t) q g z.2.2 z.1):=by
 refine Gd.loopE (fun z:Nat×List Int×Int=>lgW sn m V j (z.2.1.set (j+(m+2)) t) q g z.2.2 z.1) _ (fun z=>m+2 - z.1) ?_
 rintro ⟨k,M,c⟩ ⟨hk,hc0,hc1,hB⟩ ih
 simp only at hk hc0 hc1 hB ih⊢
 have hlm:=hB.lm
 by_cases h:k<m+2
 · have ev:=num_el (l:=V) (i:=k) (by omega)
   generalize V.getD k 0=e at ev
   obtain⟨e0,e1⟩:=dV.get ev
   have em:=num_el (l:=M) (i:=j+k) (by omega)
   generalize M.getD (j+k) 0=y at em
   obtain⟨y0,y1⟩:=hB.dm.get em
   have em2:(M.set (j+(m+2)) t)[j+k]? =some y:=by rw[List.getElem?_set_ne (by omega)];exact em
   have es:(zs (M.set (j+(m+2)) t)).set (j+k) [ni ((y+e+c) % 1000000000)]=zs ((M.set (j+k) ((y+e+c) % 1000000000)).set (j+(m+2)) t):=by
    rw[zs_set,List.set_comm _ _ (by omega)]
   have g1:=td_ (show 0≤y+e+c by omega) 1000000000
   have g2:=tm_ (show 0≤y+e+c by omega) 1000000000
   obtain⟨x,h1,hg'⟩:=ih (k+1,M.set (j+k) ((y+e+c) % 1000000000),(y+e+c) / 1000000000) ⟨by simp only;omega,by simp only;omega,by simp only;omega,hB.step em ev⟩ (by simp only;omega)
   exact⟨x,h1,.to mo_ [] [6,7,8,9,10,11,13,15,172,173] [0,1] 2 [ye (t:=decide ((k:Int)<((m+2:Nat):Int))) (decide_eq_true (by omega)),wq 179 ((k:Int)+(j:Int)) ((j+k:Nat):Int) (by omega),.sel _ _ _ (zs_at em2),.sel _ _ _ (zs_at em2),.sel _ _ _ (zs_at ev),wq 186 (y+e) (y+e) (by omega),wq 188 (y+e+c) (y+e+c) (by omega),
     wq 192 ((k:Int)+(j:Int)) ((j+k:Nat):Int) (by omega),.eqv 194 (ni ((y+e+c).tmod 1000000000)) (ni ((y+e+c) % 1000000000)) (ni_eq g2),wq 196 ((y+e+c).tdiv 1000000000) ((y+e+c) / 1000000000) (by omega),.sel _ _ _ (zs_at em2),.upd _ _ _ _ _ (zs_at em2) es,inc 198 k (by omega)] hg' (by kernel_rfl)⟩
 · obtain rfl:k=m+2:=by omega
   obtain⟨x,h1,hg'⟩:=hD M c hB hc0 hc1
   have em2:(M.set (j+(m+2)) t)[j+(m+2)]? =some t:=by rw[List.getElem?_set_self (by omega)]
   have es:(zs (M.set (j+(m+2)) t)).set (j+(m+2)) [ni (t+c)]=zs (M.set (j+(m+2)) (t+c)):=by rw[zs_set,List.set_set]
   exact⟨x,h1,.to mo_ [] [6,7,8,9,10,11] [0,1] 2 [na (t:=decide (((m+2:Nat):Int)<((m+2:Nat):Int))) (decide_eq_false (by omega)),wq 202 ((j:Int)+((m+2:Nat):Int)) ((j+(m+2):Nat):Int) (by omega),.sel _ _ _ (zs_at em2),.sel _ _ _ (zs_at em2),wq 206 (t+c) (t+c) (by omega),.sel _ _ _ (zs_at em2),.upd _ _ _ _ _ (zs_at em2) es,
     .sel _ _ _ (zs_at hq),.upd _ _ _ _ _ (zs_at hq) (zs_set q j g),wq 54 ((j:Int) - 1) ((j:Int) - 1) (by omega)] hg' (by kernel_rfl)⟩
/-- The taking away. -/
theorem long_take {b : List Int} {g d1 : Int} {j : Nat} {s : Int} {qs : List Int} (dV : I.Dig V) (h : LA a b s V m (j + 1) U qs) (hLD : I.LD U V m j) (hl : a.length ≤ 1000000000000) (hd1 : U[j + (m + 2)]? = some d1) (hG : I.Gd (I.val (U.drop j)) (I.val V) g)
  (hq:q[j]? =some 0) (hD:∀ M g,LA a b s V m j M (g::qs)→0≤g→g<1000000000→LG a b (lp flong 0) (lgX sn m V ((j:Int) - 1) M (q.set j g))):
  ∀ z:Nat×List Int×Int,(z.1≤m+2∧0≤z.2.2∧z.2.2<1000000000∧SubA V U j z.1 g z.2.2 z.2.1)→LG a b (lp flong 2) (lgZ sn m V j z.2.1 q g z.2.2 z.1):=by
 have hlu:=h.lu
 have hlq:=h.lq
 have hV:=hLD.hn
 have g0:=hG.g0
 have g1:=hG.g1
 refine Gd.loopE (fun z:Nat×List Int×Int=>lgZ sn m V j z.2.1 q g z.2.2 z.1) _ (fun z=>m+2 - z.1) ?_
 rintro ⟨k,M,c⟩ ⟨hk,hc0,hc1,hS⟩ ih
 simp only at hk hc0 hc1 hS ih⊢
 have hlm:=hS.lm
 by_cases h:k<m+2
 · have ev:=num_el (l:=V) (i:=k) (by omega)
   generalize V.getD k 0=e at ev
   obtain⟨e0,e1⟩:=dV.get ev
   have em:=num_el (l:=M) (i:=j+k) (by omega)
   generalize M.getD (j+k) 0=y at em
   obtain⟨y0,y1⟩:=hS.dm.get em
   have p0:0≤g*e:=Int.mul_nonneg g0 e0
   have p1:g*e≤999999999*999999999:=Int.mul_le_mul (by omega) (by omega) e0 (by omega)
   generalize hp:g*e=p at p0 p1
   let F0:List F_:=[ye (t:=decide ((k:Int)<((m+2:Nat):Int))) (decide_eq_true (by omega)),wq 124 ((k:Int)+(j:Int)) ((j+k:Nat):Int) (by omega),.sel _ _ _ (zs_at em),.sel _ _ _ (zs_at em),.sel _ _ _ (zs_at ev),wq 132 (g*e) p (by omega),wq 133 (y - p) (y - p) (by omega),wq 135 (y - p - c) (y - p - c) (by omega)]
   let F1:Int→List F_:=fun x=>[wq 150 ((k:Int)+(j:Int)) ((j+k:Nat):Int) (by omega),.sel _ _ _ (zs_at em),.upd _ _ _ [ni x] _ (zs_at em) (zs_set M (j+k) x),inc 153 k (by omega)]
   by_cases hx:y - p - c<0
   · have n0:0≤ -(y - p - c)+1000000000 - 1:=by omega
     have g1:=td_ n0 1000000000
     obtain⟨x,h1,hg'⟩:=ih (k+1,M.set (j+k) (y - p - c+(-(y - p - c)+1000000000 - 1) / 1000000000*1000000000),(-(y - p - c)+1000000000 - 1) / 1000000000) ⟨by simp only;omega,by simp only;omega,by simp only;omega,hS.step (x:=y - p - c+(-(y - p - c)+1000000000 - 1) / 1000000000*1000000000) (c':=(-(y - p - c)+1000000000 - 1) / 1000000000) em ev (by rw[hp]) (by omega) (by omega)⟩ (by simp only;omega)
     exact⟨x,h1,.to mo_ [] [6,7,8,9,10,11,13,15,117,118] [0,1] 2 (F0++[ye (decide_eq_true hx),wq 139 (0 - (y - p - c)) (-(y - p - c)) (by omega),wq 140 (-(y - p - c)+1000000000) (-(y - p - c)+1000000000) (by omega),wq 141 (-(y - p - c)+1000000000 - 1) (-(y - p - c)+1000000000 - 1) (by omega),
       wq 142 ((-(y - p - c)+1000000000 - 1).tdiv 1000000000) ((-(y - p - c)+1000000000 - 1) / 1000000000) (by omega),wq 145 ((-(y - p - c)+1000000000 - 1) / 1000000000*1000000000) ((-(y - p - c)+1000000000 - 1) / 1000000000*1000000000) (by omega),wq 146 (y - p - c+(-(y - p - c)+1000000000 - 1) / 1000000000*1000000000) (y - p - c+(-(y - p - c)+1000000000 - 1) / 1000000000*1000000000) (by omega)]++F1 (y - p - c+(-(y - p - c)+1000000000 - 1) / 1000000000*1000000000)) hg' (by kernel_rfl)⟩
   · obtain⟨x,h1,hg'⟩:=ih (k+1,M.set (j+k) (y - p - c),0) ⟨by simp only;omega,by simp only;omega,by simp only;omega,hS.step (x:=y - p - c) (c':=0) em ev (by rw[hp];omega) (by omega) (by omega)⟩ (by simp only;omega)
     exact⟨x,h1,.to mo_ [] [6,7,8,9,10,11,13,15,117,118] [0,1] 2 (F0++[na (decide_eq_false hx)]++F1 (y - p - c)) hg' (by kernel_rfl)⟩
 · obtain rfl:k=m+2:=by omega
   have ht:=hS.top hd1
   obtain⟨hn1,hn2⟩:=hS.fin hLD hd1
   obtain⟨q10,q11⟩:=hLD.dU.get hd1
   have em2:(M.set (j+(m+2)) (d1 - c))[j+(m+2)]? =some (d1 - c):=by rw[List.getElem?_set_self (by omega)]
   let F0:List F_:=[na (t:=decide (((m+2:Nat):Int)<((m+2:Nat):Int))) (decide_eq_false (by omega)),wq 157 ((j:Int)+((m+2:Nat):Int)) ((j+(m+2):Nat):Int) (by omega),.sel _ _ _ (zs_at ht),.sel _ _ _ (zs_at ht),wq 161 (d1 - c) (d1 - c) (by omega),.sel _ _ _ (zs_at ht),.upd _ _ _ [ni (d1 - c)] _ (zs_at ht) (zs_set M (j+(m+2)) (d1 - c)),
     wq 166 ((j:Int)+((m+2:Nat):Int)) ((j+(m+2):Nat):Int) (by omega),.sel _ _ _ (zs_at em2),.sel _ _ _ (zs_at em2)]
   by_cases hneg:d1 - c<0
   · have hgp:1≤g:=by
      by_cases h0:g=0
      · have:=hn1.1 hneg
        rw[h0]at this
        have:=I.val_nonneg (hLD.dU.drop j)
        omega
      · omega
     obtain⟨x,h1,hg'⟩:=long_back (a:=a) (b:=b) (sn:=sn) (M0:=M) (g:=g - 1) (t:=d1 - c) (V:=V) (q:=q) dV hV (by omega) (by omega) hq (by omega) (by omega)
      (fun M2 c2 hB k0 k1=>by
       obtain⟨k2,k3,k4,k5,k6⟩:=BackA.fin hS hB hLD hd1 hG hneg
       exact hD _ _ (‹LA a b s V m (j+1) U qs›.next k2 (by omega) k3 k4 k5 k6) k2 (by omega)) (0,M,0) ⟨Nat.zero_le _,Int.le_refl _,by simp,.start hS.dm⟩
     exact⟨x,h1,.to mo_ [] [6,7,8,9,10,11,13,15,172,173] [0,1] 2 (F0++[ye (decide_eq_true hneg),wq 171 (g - 1) (g - 1) (by omega)]) hg' (by kernel_rfl)⟩
   · obtain⟨k3,k4,k5,k6⟩:=hn2 hG hneg
     obtain⟨x,h1,hg'⟩:=hD _ _ (‹LA a b s V m (j+1) U qs›.next g0 g1 k3 k4 k5 k6) g0 g1
     exact⟨x,h1,.to mo_ [] [6,7,8,9,10,11] [0,1] 2 (F0++[na (decide_eq_false hneg),.sel _ _ _ (zs_at hq),.upd _ _ _ _ _ (zs_at hq) (zs_set q j g),wq 54 ((j:Int) - 1) ((j:Int) - 1) (by omega)]) hg' (by kernel_rfl)⟩
end
end Go.Proofs.YtfdfbenejkmnlaaGreatDoor.E
