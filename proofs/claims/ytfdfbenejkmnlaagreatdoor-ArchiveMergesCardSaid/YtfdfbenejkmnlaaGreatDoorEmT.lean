/-
 THE REFERENCE of package integer by the second engine: sums.
-/
import Derived.Test.YtfdfbenejkmnlaaGreatDoorEmP
import Derived.Test.YtfdfbenejkmnlaaGreatDoorEmM
namespace Go.Proofs.YtfdfbenejkmnlaaGreatDoor.E
open Go.RowKit
set_option linter.unusedVariables false
section
variable {a b V U q:List Int} {sn m j:Nat}
/-- The guess. -/
theorem long_guess {s:Int} {qs:List Int} {d1 d2 d3 v1 v2:Int} (dV:I.Dig V) (h:LA a b s V m (j+1) U qs) (hLD:I.LD U V m j) (hl:a.length≤1000000000000)
  (hd1:U[j+(m+2)]? =some d1) (hd2:U[j+(m+1)]? =some d2) (hd3:U[j+m]? =some d3) (hv1:V[m+1]? =some v1) (hv2:V[m]? =some v2) (hR:I.Rd (I.val (U.drop j)) (I.val V) (I.pw m) d1 d2 d3 v1 v2)
  (hq:q[j]? =some 0) (hD:∀ M g,LA a b s V m j M (g::qs)→0≤g→g<1000000000→LG a b (lp flong 0) (lgX sn m V ((j:Int) - 1) M (q.set j g))):
  ∀ z:Int×Int,(z.2<1000000000∧I.Gs (I.val (U.drop j)) (I.val V) d1 d2 v1 z.1 z.2)→LG a b (lp flong 1) (lgY sn m V j U q z.1 z.2):=by
 have hlu:=h.lu
 have hlq:=h.lq
 obtain⟨q10,q11⟩:=hLD.dU.get hd1
 obtain⟨q20,q21⟩:=hLD.dU.get hd2
 obtain⟨q30,q31⟩:=hLD.dU.get hd3
 obtain⟨w10,w11⟩:=dV.get hv1
 obtain⟨w20,w21⟩:=dV.get hv2
 have out:∀ g,I.Gd (I.val (U.drop j)) (I.val V) g→LG a b (lp flong 2) (lgZ sn m V j U q g 0 0):=fun g hG=>
  long_take dV h hLD hl hd1 hG hq hD (0,U,0) ⟨Nat.zero_le _,Int.le_refl _,by simp,.start hLD.dU⟩
 refine Gd.loopE (fun z:Int×Int=>lgY sn m V j U q z.1 z.2) _ (fun z=>z.1.toNat) ?_
 rintro ⟨g,r⟩ ⟨hr,hG⟩ ih
 simp only at hr hG ih⊢
 have hg0:=hG.g0
 have hg1:=hG.g1
 have hr0:=hG.r0
 have p0:0≤g*v2:=Int.mul_nonneg hg0 w20
 have p1:g*v2≤2000000000*999999999:=Int.mul_le_mul hg1 (by omega) w20 (by omega)
 let FL:List F_:=[wq 107 (g - 1) (g - 1) (by omega),wq 111 (((m+2:Nat):Int) - 1) ((m+1:Nat):Int) (by omega),.sel _ _ _ (zs_at hv1),wq 114 (r+v1) (r+v1) (by omega)]
 by_cases hA:g≥1000000000
 · have hless:=hR.less hG q21 q30 hr (.inl hA)
   let F0:List F_:=[ye (decide_eq_true hA),yt]
   by_cases hC:r+v1≥1000000000
   · obtain⟨x,h1,hg'⟩:=out _ (hR.done hless.1 w21 q30 (hless.2 hC) (.inl hC))
     exact⟨x,h1,.to mo_ [] [6,7,8,9,10,11,13,15,117,118] [0,1] 2 (F0++FL++[ye (decide_eq_true hC)]) hg' (by kernel_rfl)⟩
   · obtain⟨x,h1,hg'⟩:=ih (g - 1,r+v1) ⟨by simp only;omega,hless.1⟩ (by simp only;omega)
     exact⟨x,h1,.to mo_ [] [6,7,8,9,10,11,13,14] [0,1] 2 (F0++FL++[na (decide_eq_false hC)]) hg' (by kernel_rfl)⟩
 · let F0 : List F_ := [na (decide_eq_false hA), wq 90 (((m + 2 : Nat) : Int) - 2) m (by omega), .sel _ _ _ (zs_at hv2), wq 93 (g * v2) (g * v2) (by omega), wq 95 (r * 1000000000) (r * 1000000000) (by omega), wq 99 ((j : Int) + ((m + 2 : Nat) : Int)) ((j + (m + 2) : Nat) : Int) (by omega), wq 100 (((j + (m + 2) : Nat) : Int) - 2) ((j + m : Nat) : Int) (by omega), .sel _ _ _ (zs_at hd3), .sel _ _ _ (zs_at hd3), wq 103 (r * 1000000000 + d3) (r * 1000000000 + d3) (by omega)]
   by_cases hB:g*v2>r*1000000000+d3
   · have hless:=hR.less hG q21 q30 hr (.inr hB)
     have hg9:1≤g:=by
      by_cases h0:g=0
      · rw[h0]at hB;omega
      · omega
     by_cases hC:r+v1≥1000000000
     · obtain⟨x,h1,hg'⟩:=out _ (hR.done hless.1 w21 q30 (hless.2 hC) (.inl hC))
       exact⟨x,h1,.to mo_ [] [6,7,8,9,10,11,13,15,117,118] [0,1] 2 (F0++[ye (decide_eq_true hB)]++FL++[ye (decide_eq_true hC)]) hg' (by kernel_rfl)⟩
     · obtain⟨x,h1,hg'⟩:=ih (g - 1,r+v1) ⟨by simp only;omega,hless.1⟩ (by simp only;omega)
       exact⟨x,h1,.to mo_ [] [6,7,8,9,10,11,13,14] [0,1] 2 (F0++[ye (decide_eq_true hB)]++FL++[na (decide_eq_false hC)]) hg' (by kernel_rfl)⟩
   · obtain⟨x,h1,hg'⟩:=out _ (hR.done hG w21 q30 (by omega) (.inr (by omega)))
     exact⟨x,h1,.to mo_ [] [6,7,8,9,10,11,13,15,117,118] [0,1] 2 (F0++[na (decide_eq_false hB)]) hg' (by kernel_rfl)⟩
theorem rep_at (j:Nat) (qs:List Int):(List.replicate (j+1) 0++qs)[j]? =some 0:=by
 rw[List.getElem?_append_left (by simp),List.getElem?_replicate];simp
theorem rep_put (j:Nat) (qs:List Int) (g:Int):(List.replicate (j+1) 0++qs).set j g=List.replicate j 0++g::qs:=by
 rw[List.replicate_succ',List.append_assoc,List.set_append_right _ _ (by simp)];simp
/-- The rounds. -/
theorem long_rounds {s:Int} (hs:s=((sn+1:Nat):Int)) (hs2:s<1000000000) (dV:I.Dig V) (hV:V.length=m+2) (hp:I.pw (m+1)≤I.val V) (hVv:I.val V=I.val b*s) (hl:a.length≤1000000000000) (hab:m+2≤a.length):
  ∀ z:Nat×List Int×List Int,(z.1+m+1≤a.length∧LA a b s V m z.1 z.2.1 z.2.2)→LG a b (lp flong 0) (lgX sn m V ((z.1:Int) - 1) z.2.1 (List.replicate z.1 0++z.2.2)):=by
 refine Gd.loopE (fun z:Nat×List Int×List Int=>lgX sn m V ((z.1:Int) - 1) z.2.1 (List.replicate z.1 0++z.2.2)) _ (fun z=>z.1) ?_
 rintro ⟨gk,U,qs⟩ ⟨hgk,h⟩ ih
 simp only at hgk h ih⊢
 have hlu:=h.lu
 have hlq:=h.lq
 have hVlt:=I.val_lt dV
 rw[hV]at hVlt
 cases gk with
 |zero=>
   have htop:=h.top
   rw[List.drop_zero]at htop
   have hlow:=I.take_lowN h.du (n:=m+2) (by omega) (by omega)
   have hlt:(U.take (m+2)).length=m+2:=by rw[List.length_take];omega
   obtain⟨r,⟨dr,lr,vr⟩,hsh⟩:=e_short sn hs (h.du.take (m+2)) (by rw[hlt];omega) hs2
   have hr0:=Int.emod_nonneg (I.val (U.take (m+2))) (show s≠0 by omega)
   have hr1:=Int.emod_lt_of_pos (I.val (U.take (m+2))) (show 0<s by omega)
   have he:=h.e
   rw[I.pw_zero,Int.mul_one]at he
   have hfin:=I.last_rest (by omega) hVv he htop (by rw[←hlow];exact vr) hr0 hr1
   refine⟨(qs,r),⟨h.dq,dr,hfin.2.1,hfin.2.2,by simp only;omega,by simp only;rw[lr,hlt];omega⟩, ?_⟩
   generalize I.val (U.take (m+2)) % s=e at*
   subst hs
   refine .to mo_ [.fz 7] [6,7,9,10] [1] 2 [na (t:=decide ((((0:Nat):Int) - 1)≥0)) rfl] (td':=rg flong 37) (σ':=at_ flong [(6,ni ((sn+1:Nat):Int)),(7,zl U),(9,ni ((m+2:Nat):Int)),(10,.ow 1)] [.dead,.rw 3 1 (zs qs)]) ?_ (by kernel_rfl)
   exact fi [.slc (zs U) 0 (m+2) 1 (zs (U.take (m+2))) (by rw[List.drop_zero,zs_take]) (by rw[zs_len];omega) (zs_z U),cl hsh] (by kernel_rfl) (by kernel_rfl)
 |succ j=>
   have hLD:I.LD U V m j:=⟨h.du,dV,hV,by omega,hp,h.top⟩
   obtain⟨d1,d2,d3,v1,v2,hd1,hd2,hd3,hv1,hv2,hRd⟩:=hLD.digits
   obtain⟨q10,q11⟩:=hLD.dU.get hd1
   obtain⟨q20,q21⟩:=hLD.dU.get hd2
   obtain⟨q30,q31⟩:=hLD.dU.get hd3
   obtain⟨w10,w11⟩:=dV.get hv1
   obtain⟨w20,w21⟩:=dV.get hv2
   have hv1p:=hRd.v1p
   have hst:=hRd.start q10 q11 q20 q21 q31 w20
   have n0:0≤d1*1000000000+d2:=by omega
   have t1:=td_ n0 v1
   have t2:=tm_ n0 v1
   have b0:=hst.1.g0
   have b1:=hst.1.g1
   have hnext:∀ M g,LA a b s V m j M (g::qs)→0≤g→g<1000000000→LG a b (lp flong 0) (lgX sn m V ((j:Int) - 1) M ((List.replicate (j+1) 0++qs).set j g)):=fun M g hM _ _=>by
    rw[rep_put]
    exact ih (j,M,g::qs) ⟨by simp only;omega,hM⟩ (by simp only;omega)
   obtain⟨x,h1,hg'⟩:=long_guess (sn:=sn) dV h hLD hl hd1 hd2 hd3 hv1 hv2 hRd (rep_at j qs) hnext ((d1*1000000000+d2) / v1,(d1*1000000000+d2) % v1) ⟨by simp only;omega,hst.1⟩
   refine⟨x,h1, ?_⟩
   rw[show((j+1:Nat):Int) - 1=(j:Int)by omega]
   generalize (d1*1000000000+d2) / v1=gg at*
   generalize (d1*1000000000+d2) % v1=rr at*
   obtain⟨w,rfl⟩:∃ w:Nat,v1=((w+1:Nat):Int):=⟨(v1 - 1).toNat,by omega⟩
   exact .to mo_ [] [6,7,8,9,10,11,13,14] [0,1] 2 [ye (t:=decide ((j:Int)≥0)) (by simp),wq 58 ((j:Int)+((m+2:Nat):Int)) ((j+m+2:Nat):Int) (by omega),.sel _ _ _ (zs_at hd1),.sel _ _ _ (zs_at hd1),wq 61 (d1*1000000000) (d1*1000000000) (by omega),wq 65 ((j:Int)+((m+2:Nat):Int)) ((j+m+2:Nat):Int) (by omega),wq 66 (((j+m+2:Nat):Int) - 1) ((j+m+1:Nat):Int) (by omega),.sel _ _ _ (zs_at hd2),.sel _ _ _ (zs_at hd2),wq 69 (d1*1000000000+d2) (d1*1000000000+d2) (by omega),
    wq 73 (((m+2:Nat):Int) - 1) ((m+1:Nat):Int) (by omega),.sel _ _ _ (zs_at hv1),wq 76 ((d1*1000000000+d2).tdiv ((w+1:Nat):Int)) gg (by omega),wq 80 (((m+2:Nat):Int) - 1) ((m+1:Nat):Int) (by omega),.sel _ _ _ (zs_at hv1),.eqv 83 (ni ((d1*1000000000+d2).tmod ((w+1:Nat):Int))) (ni rr) (ni_eq t2)] hg' (by kernel_rfl)
theorem e_long {m:Nat} (da:I.Dig a) (cb:I.Can b) (hl:a.length≤1000000000000) (hb:b.length=m+2) (hab:m+2≤a.length):∃ x,LongQ a b x∧Pure PP 186 [zl a,zl b] (.tu [.sl (zs x.1),.sl (zs x.2)]):=by
 have et:=num_el (l:=b) (i:=m+1) (by omega)
 generalize b.getD (m+1) 0=t at et
 obtain⟨t0,t1,s0,s1,hV0,hV1⟩:=I.scale_ok cb hb et
 have hss:=td_ (show 0≤1000000000 by decide) (t+1)
 generalize hs:1000000000 / (t+1)=s at*
 obtain⟨sn,rfl⟩:∃ n:Nat,s=((n+1:Nat):Int):=⟨(s - 1).toNat,by omega⟩
 obtain⟨tn,rfl⟩:∃ n:Nat,t=(n:Int):=⟨t.toNat,by omega⟩
 obtain⟨U,⟨dU,vU,lU⟩,hU⟩:=e_scaled true da hl (m:=((sn+1:Nat):Int)) (by omega)
 obtain⟨W,⟨dW,vW,lW⟩,hW⟩:=e_scaled false cb.1 (by omega) (m:=((sn+1:Nat):Int)) (by omega)
 have htk:=I.take_low dW (n:=m+2) (by omega) (by rw[vW];exact hV0)
 have hlV:(W.take (m+2)).length=m+2:=by rw[List.length_take];omega
 have hpb:I.pw (m+1)≤I.val b:=by
  have:=cb.pos (by intro e;rw[e]at hb;simp at hb)
  rwa [hb]at this
 have hLD:=I.LD.first (b:=b) (s:=((sn+1:Nat):Int)) da dU (dW.take (m+2)) hab lU hlV vU (by rw[htk,vW]) s0 hpb (by rw[htk,vW];exact hV1)
 obtain⟨x,h1,hg⟩:=long_rounds (b:=b) (sn:=sn) rfl s1 (dW.take (m+2)) hlV (by rw[htk,vW];exact hV1) (by rw[htk,vW]) hl hab (a.length - (m+2)+1,U,[]) ⟨by simp only;omega,lU,dU,I.Dig.nil,by simp;omega,by rw[vU];simp[I.val],hLD.top⟩
 refine⟨x,h1, ?_⟩
 simp only[lgX,List.append_nil]at hg
 rw[←zs_rep]at hg
 exact pf (by kernel_rfl) (.to mo_ [] [6,7,8,9,10,11] [0,1] 2 [.eqv 24 (ni ((zs b).length:Int)) (ni ((m+2:Nat):Int)) (by rw[zs_len,hb]),wq 25 (((m+2:Nat):Int) - 1) ((m+1:Nat):Int) (by omega),.sel _ _ _ (zs_at et),wq 28 ((tn:Int)+1) ((tn+1:Nat):Int) (by omega),wq 29 ((1000000000:Int).tdiv ((tn+1:Nat):Int)) ((sn+1:Nat):Int) (by rw[show((tn+1:Nat):Int)=(tn:Int)+1 from rfl];omega),
  cl hU,cl hW,.eqv 37 (ni ((zs b).length:Int)) (ni ((m+2:Nat):Int)) (by rw[zs_len,hb]),.slc (zs W) 0 (m+2) 1 (zs (W.take (m+2))) (by rw[List.drop_zero,zs_take]) (by rw[zs_len];omega) (zs_z W),.eqv 40 (ni ((zs b).length:Int)) (ni ((m+2:Nat):Int)) (by rw[zs_len,hb]),.eqv 42 (ni ((zs a).length:Int)) (ni a.length) (by rw[zs_len]),
  wq 44 ((a.length:Int) - ((m+2:Nat):Int)) ((a.length:Int) - ((m+2:Nat):Int)) (by omega),wq 45 ((a.length:Int) - ((m+2:Nat):Int)+1) ((a.length - (m+2)+1:Nat):Int) (by omega),.mk (a.length - (m+2)+1) (by omega),.eqv 48 (ni ((zs a).length:Int)) (ni a.length) (by rw[zs_len]),wq 50 ((a.length:Int) - ((m+2:Nat):Int)) (((a.length - (m+2)+1:Nat):Int) - 1) (by omega)] hg (by kernel_rfl))
end
end Go.Proofs.YtfdfbenejkmnlaaGreatDoor.E
namespace Go.Proofs.YtfdfbenejkmnlaaGreatDoor.E
open Go.RowKit
set_option linter.unusedVariables false
section
variable {a b:List Int} {x y:Int} {j k:Nat}
theorem two_yes (hd:I.Dig a) (h:a.length≤2):Pure PP 164 [zl a] (.tu [ni (I.val a),bo true]):=by
 have:=e_two hd
 rwa [if_pos h,decide_eq_true h]at this
theorem two_no (hd:I.Dig a) (h:¬a.length≤2):Pure PP 164 [zl a] (.tu [ni 0,bo false]):=by
 have:=e_two hd
 rwa [if_neg h,decide_eq_false h]at this
theorem two_lt (hd:I.Dig a) (h:a.length≤2):I.val a<1000000000000000000:=by
 have h1:=I.val_lt hd
 have h2:=I.pw_mono h
 have h3:I.pw 2=1000000000000000000:=by decide
 omega
theorem divq {va vb q r:Int} (h:va=q*vb+r) (h0:0≤r) (h1:r<vb):va / vb=q∧va % vb=r:=by
 subst h
 rw[Int.add_comm,Int.mul_comm,Int.add_mul_ediv_left _ _ (by omega),Int.add_mul_emod_self_left,Int.ediv_eq_zero_of_lt h0 h1,Int.emod_eq_of_lt h0 h1]
 omega
theorem sg_f (v:Int):sg false v=v:=rfl
theorem e_divide (ca:I.Can a) (cb:I.Can b) (hl:a.length≤1000000000000) (h0:I.val b≠0):Pure PP 166 [zl a,zl b] (.tu [.ag (dI (I.val a / I.val b)),.ag (dI (I.val a % I.val b))]):=by
 have a0:=I.val_nonneg ca.1
 have b0:=I.val_nonneg cb.1
 obtain⟨n,hn⟩:∃ n:Nat,I.val b=((n+1:Nat):Int):=⟨(I.val b - 1).toNat,by omega⟩
 have hq0:0≤I.val a / I.val b:=Int.ediv_nonneg a0 b0
 have hr0:=Int.emod_nonneg (I.val a) h0
 have hr1:=Int.emod_lt_of_pos (I.val a) (show 0<I.val b by omega)
 have hdm:=Int.mul_ediv_add_emod (I.val a) (I.val b)
 have hs:Gd PP 166 (.tu [.ag (dI (I.val a / I.val b)),.ag (dI (I.val a % I.val b))]) (rg (fnOf PP 166) 6) (at_ (fnOf PP 166) [(0,zl a),(1,zl b),(4,.lp 0 0),(5,.lp 1 0)] [.bx 32 [bo false,.nl],.bx 32 [bo false,.nl]]):=by
  have hc:=e_compare ca cb
  by_cases hlt:I.val a<I.val b
  · have ho:=e_of_ false ca.1
    rw[sg_f]at ho
    rw[Int.ediv_eq_zero_of_lt a0 hlt,Int.emod_eq_of_lt a0 hlt,dI_0]
    rw[cmpZ_lt hlt]at hc
    exact fi [cl hc,yt,cl ho] (by kernel_rfl) (by kernel_rfl)
  have hcn:decide (cmpZ (I.val a) (I.val b)<0)=false:=by unfold cmpZ;rw[if_neg hlt];split<;>rfl
  by_cases h1:b.length=1
  · have hv:I.val b<1000000000:=by
     have:=I.val_lt cb.1
     rw[h1]at this
     have h3:I.pw 1=1000000000:=by decide
     omega
    have k0:b=[I.val b]:=by
     match b,h1 with
     |[d],_=>simp[I.val]
    obtain⟨q,⟨dq,lq,vq⟩,hsh⟩:=e_short n hn ca.1 hl hv
    have hq:=divq vq hr0 hr1
    have ho:=e_of_ false dq
    rw[sg_f,←hq.1]at ho
    have hu:=e_unsigned false (u:=I.val a % I.val b) hr0 (by omega)
    rw[sg_f]at hu
    have es:(zs b)[0]? =some [ni ((n+1:Nat):Int)]:=by rw[k0,hn];rfl
    rw[hn]at hsh ho hu hr0 hr1⊢
    generalize I.val a % ((n+1:Nat):Int)=rr at*
    generalize I.val a / ((n+1:Nat):Int)=qq at*
    exact fi [cl hc,na hcn,ye (t:=((zs b).length:Int)==1) (by rw[zs_len,h1];rfl),.sel _ _ _ es,cl hsh,cl ho,.eqv 57 (nu (IntKind.u64.wrap rr)) (nu rr) (nu_eq (by rw[IntKind.wrap_u64];omega)),cl hu] (by kernel_rfl) (by kernel_rfl)
  · have hbl:b.length≠0:=fun e=>h0 (by rw[List.length_eq_zero_iff.1 e];rfl)
    have hab:=cb.len ca.1 (by omega)
    obtain⟨x,⟨d1,d2,v1,v2,_,_⟩,hlg⟩:=e_long (m:=b.length - 2) ca.1 cb hl (by omega) (by omega)
    have hq:=divq v1 (I.val_nonneg d2) v2
    have o1:=e_of_ false d1
    have o2:=e_of_ false d2
    rw[sg_f,←hq.1]at o1
    rw[sg_f,←hq.2]at o2
    exact fi [cl hc,na hcn,na (t:=((zs b).length:Int)==1) (by rw[zs_len];simp;omega),cl hlg,cl o1,cl o2] (by kernel_rfl) (by kernel_rfl)
 by_cases ha:a.length≤2
 · by_cases hb:b.length≤2
   · have ta:=two_yes ca.1 ha
     have tb:=two_yes cb.1 hb
     have la:=two_lt ca.1 ha
     have lb:=two_lt cb.1 hb
     have hqa:I.val a / I.val b≤I.val a:=Int.ediv_le_self _ a0
     have u1:=e_unsigned false (u:=I.val a / I.val b) hq0 (by omega)
     have u2:=e_unsigned false (u:=I.val a % I.val b) hr0 (by omega)
     rw[sg_f]at u1 u2
     have t1:=td_ a0 (I.val b)
     have t2:=tm_ a0 (I.val b)
     rw[hn]at tb u1 u2 t1 t2 hq0 hqa hr1 hr0⊢
     generalize I.val a / ((n+1:Nat):Int)=qq at*
     generalize I.val a % ((n+1:Nat):Int)=rr at*
     exact tr [cl ta,yt,cl tb,yt,wq 28 ((I.val a).tdiv ((n+1:Nat):Int)) qq (by omega),.eqv 29 (nu (IntKind.u64.wrap qq)) (nu qq) (nu_eq (by rw[IntKind.wrap_u64];omega)),cl u1,.eqv 33 (ni ((I.val a).tmod ((n+1:Nat):Int))) (ni rr) (ni_eq t2),.eqv 34 (nu (IntKind.u64.wrap rr)) (nu rr) (nu_eq (by rw[IntKind.wrap_u64];omega)),cl u2] (by kernel_rfl)
   · exact pf (by kernel_rfl) (.to mo_ [] [0,1,4,5] [0,1] 2 [cl (two_yes ca.1 ha),yt,cl (two_no cb.1 hb),nf] hs (by kernel_rfl))
 · exact pf (by kernel_rfl) (.to mo_ [] [0,1,4,5] [0,1] 2 [cl (two_no ca.1 ha),nf] hs (by kernel_rfl))
noncomputable abbrev fdiv:Func:=fnOf PP 188
/-- The signs of a division. -/
theorem div_tail {Q R:Int} (hQ:0≤Q) {e r:Int} (hx:e=if decide (x<0) != decide (y<0)then -Q else Q) (hr:r=R):
  Gd PP 188 (.tu [.ag (dI e),.ag (dI r)]) (rg fdiv 7) (at_ fdiv [(2,.lp 0 0),(3,.lp 1 0),(4,.lp 2 0),(5,.lp 3 0),(6,.lp 4 0),(7,.lp 5 0)] [.bx 32 (dI x),.bx 32 (dI y),.bx 32 [bo false,.nl],.bx 32 [bo false,.nl],.bx 32 (dI Q),.bx 32 (dI R)]):=by
 subst hr
 cases hs:decide (x<0) != decide (y<0)with
 |false=>
   rw[hs]at hx
   simp only[Bool.false_eq_true,if_false]at hx
   rw[hx,show dI Q=[bo false,dg Q]by unfold dI;rw[decide_eq_false (by omega)];rfl]
   exact fi [na hs] (by kernel_rfl) (by kernel_rfl)
 |true=>
   rw[hs]at hx
   simp only[if_true]at hx
   rw[hx,show dI (-Q)=[bo (decide (-Q<0)),dg Q]by unfold dI;rw[Int.natAbs_neg];rfl]
   exact fi [ye hs,.eqv 50 (bo (decide (((zs (digs Q.natAbs)).length:Int)>0))) (bo (decide (-Q<0))) (by
    rw[zs_len]
    by_cases h:Q=0
    · rw[digs_z h,h];rfl
    · have:=digs_nz h
      rw[decide_eq_true (show -Q<0 by omega),decide_eq_true (by omega)])] (by kernel_rfl) (by kernel_rfl)
theorem divE {q r:Int} (hy:y≠0) (h:x=q*y+r) (h0:0≤r) (h1:r<y.natAbs):x / y=q∧x % y=r:=by
 rcases Int.lt_or_gt_of_ne hy with h2|h2
 · have:=divq (va:=x) (vb:= -y) (q:= -q) (r:=r) (by rw[Int.neg_mul_neg];exact h) h0 (by omega)
   rw[Int.ediv_neg,Int.emod_neg]at this
   omega
 · exact divq h h0 (by omega)
theorem e_div (bx : I.Bd k x) (by_ : I.Bd k y) (hk : k ≤ 1000000000000) (h0 : y ≠ 0) : Pure PP 188 [.ag (dI x), .ag (dI y)] (.tu [.ag (dI (x / y)), .ag (dI (x % y))]) := by
 have lx:=bd_len bx
 have ly:=bd_len by_
 have hd:=e_divide (digs_ok x.natAbs).1 (digs_ok y.natAbs).1 (by omega) (by rw[val_];omega)
 rw[val_,val_]at hd
 have hq0:0≤(x.natAbs:Int) / (y.natAbs:Int):=Int.ediv_nonneg (by omega) (by omega)
 have hr0:=Int.emod_nonneg (x.natAbs:Int) (show(y.natAbs:Int)≠0 by omega)
 have hr1:=Int.emod_lt_of_pos (x.natAbs:Int) (show 0<(y.natAbs:Int)by omega)
 have hdm:=Int.mul_ediv_add_emod (x.natAbs:Int) (y.natAbs:Int)
 have hq1:(x.natAbs:Int) / (y.natAbs:Int)≤(x.natAbs:Int):=Int.ediv_le_self _ (by omega)
 generalize (x.natAbs:Int) / (y.natAbs:Int)=q at*
 generalize (x.natAbs:Int) % (y.natAbs:Int)=r at*
 have nz:(((zs (digs y.natAbs)).length:Int)==0)=false:=by rw[zs_len];exact len_nz h0
 by_cases hx:x<0
 · by_cases hr:r=0
   · subst hr
     have e1:x / y=(if decide (x<0) != decide (y<0)then -q else q)∧x % y=0:=divE h0 (by
      by_cases hy:y<0
      · simp only[hx,hy,decide_true,bne_self_eq_false,Bool.false_eq_true,if_false]
        rw[show(x.natAbs:Int)= -x by omega,show(y.natAbs:Int)= -y by omega]at hdm
        grind
      · simp only[hx,hy,decide_true,decide_false,Bool.true_bne,Bool.not_false,if_true]
        rw[show(x.natAbs:Int)= -x by omega,show(y.natAbs:Int)=y by omega]at hdm
        grind) (by omega) (by omega)
     exact pf (by kernel_rfl) (.to mo_ [] [2,3,4,5,6,7] [0,1,2,3,4,5] 6 [na nz,cl hd,ye (decide_eq_true hx),na (t:=decide (((zs (digs (0:Int).natAbs)).length:Int)>0)) (by rw[digs_z rfl];rfl)] (div_tail hq0 e1.1 e1.2) (by kernel_rfl))
   · obtain⟨l,⟨dl,vl,_⟩,hl⟩:=e_plus (a:=digs q.natAbs) (b:=[1]) dig_ (fun d h=>by simp at h;omega) ⟨by
      have:=(digs_ok q.natAbs).1.len (digs_ok x.natAbs).1.1 (by rw[val_,val_];omega)
      omega,by simp⟩
     have ho:=e_of_ false dl
     rw[vl,val_,sg_f,show I.val [1]=1 by simp[I.val],show(q.natAbs:Int)=q by omega]at ho
     obtain⟨l2,⟨dl2,vl2,_⟩,hl2⟩:=e_minus (a:=digs y.natAbs) (b:=digs r.natAbs) dig_ dig_ (by omega) (len_le (by omega)) (by rw[val_,val_];omega)
     have ho2:=e_of_ false dl2
     rw[vl2,val_,val_,sg_f,show(r.natAbs:Int)=r by omega]at ho2
     have e1:x / y=(if decide (x<0) != decide (y<0)then -(q+1)else q+1)∧x % y=(y.natAbs:Int) - r:=divE h0 (by
      by_cases hy:y<0
      · simp only[hx,hy,decide_true,bne_self_eq_false,Bool.false_eq_true,if_false]
        rw[show(x.natAbs:Int)= -x by omega,show(y.natAbs:Int)= -y by omega]at hdm
        rw[show(y.natAbs:Int)= -y by omega]
        grind
      · simp only[hx,hy,decide_true,decide_false,Bool.true_bne,Bool.not_false,if_true]
        rw[show(x.natAbs:Int)= -x by omega,show(y.natAbs:Int)=y by omega]at hdm
        rw[show(y.natAbs:Int)=y by omega]
        grind) (by omega) (by omega)
     exact pf (by kernel_rfl) (.to mo_ [] [2,3,4,5,6,7] [0,1,2,3,4,5] 6 [na nz,cl hd,ye (decide_eq_true hx),ye (t:=decide (((zs (digs r.natAbs)).length:Int)>0)) (by have:=digs_nz hr;rw[zs_len];exact decide_eq_true (by omega)),cl hl,cl ho,cl hl2,cl ho2] (div_tail (by omega) e1.1 e1.2) (by kernel_rfl))
 · have e1:x / y=(if decide (x<0) != decide (y<0)then -q else q)∧x % y=r:=divE h0 (by
    by_cases hy:y<0
    · simp only[hx,hy,decide_true,decide_false,Bool.false_bne,if_true]
      rw[show(x.natAbs:Int)=x by omega,show(y.natAbs:Int)= -y by omega]at hdm
      grind
    · simp only[hx,hy,decide_false,bne_self_eq_false,Bool.false_eq_true,if_false]
      rw[show(x.natAbs:Int)=x by omega,show(y.natAbs:Int)=y by omega]at hdm
      grind) (by omega) (by omega)
   exact pf (by kernel_rfl) (.to mo_ [] [2,3,4,5,6,7] [0,1,2,3,4,5] 6 [na nz,cl hd,na (decide_eq_false hx),nf] (div_tail hq0 e1.1 e1.2) (by kernel_rfl))
end
end Go.Proofs.YtfdfbenejkmnlaaGreatDoor.E
namespace Go.Proofs.YtfdfbenejkmnlaaGreatDoor.E
open Go.RowKit
set_option linter.unusedVariables false
section
variable {x y:Int} {k:Nat}
noncomputable abbrev fgcd:Func:=fnOf PP 124
theorem gcd_swap (u v:Nat):Nat.gcd v (u % v)=Nat.gcd u v:=by
 rw[Nat.gcd_comm v (u % v),←Nat.gcd_rec,Nat.gcd_comm]
theorem gcd_small:∀ z:Nat×Nat,(z.1<1000000000000000000∧z.2<1000000000000000000)→Gd PP 124 (.ag (dI ((Nat.gcd z.1 z.2:Nat):Int))) (lp fgcd 1) (at_ fgcd [(4,.lp 2 0),(7,ni z.1),(9,ni z.2)] [.dead,.dead,.bx 32 [bo false,.nl]]):=by
 have key:∀ d:Nat,∀ z:Nat×Nat,(z.1<1000000000000000000∧z.2<1000000000000000000∧Nat.gcd z.1 z.2=d)→Gd PP 124 (.ag (dI (d:Int))) (lp fgcd 1) (at_ fgcd [(4,.lp 2 0),(7,ni z.1),(9,ni z.2)] [.dead,.dead,.bx 32 [bo false,.nl]]):=by
  intro d
  refine Gd.loop (fun z:Nat×Nat=>at_ fgcd [(4,.lp 2 0),(7,ni z.1),(9,ni z.2)] [.dead,.dead,.bx 32 [bo false,.nl]]) _ (fun z=>z.2) ?_
  rintro ⟨u,v⟩ ⟨hu,hv,hd⟩ ih
  simp only at hu hv hd ih⊢
  cases v with
  |zero=>
   rw[Nat.gcd_zero_right]at hd
   subst hd
   have h:=e_unsigned false (u:=(u:Int)) (by omega) (by omega)
   rw[sg_f]at h
   exact fi [na (t:=decide (((0:Nat):Int)>0)) rfl,.eqv 46 (nu (IntKind.u64.wrap (u:Int))) (nu (u:Int)) (nu_eq (by rw[IntKind.wrap_u64];omega)),cl h] (by kernel_rfl) (by kernel_rfl)
  |succ n=>
   have h1:u % (n+1)<n+1:=Nat.mod_lt _ (by omega)
   have h2:=ih (n+1,u % (n+1)) ⟨by simp only;omega,by simp only;omega,by simp only;rw[gcd_swap];exact hd⟩ (by simp only;omega)
   exact .to mo_ [] [4,7,9] [2] 3 [ye (t:=decide (((n+1:Nat):Int)>0)) (decide_eq_true (by omega)),.eqv 44 (ni ((u:Int).tmod ((n+1:Nat):Int))) (ni ((u % (n+1):Nat):Int)) (ni_eq (by rw[tm_ (by omega)];omega))] h2 (by kernel_rfl)
 exact fun z h=>key _ z ⟨h.1,h.2,rfl⟩
theorem nat_val (u:Nat):I.val (digs (u:Int).natAbs)=(u:Int):=by rw[val_];omega
theorem gcd_loop {d:Nat} (hk:k≤1000000000000):∀ z:Nat×Nat,(I.Bd k z.1∧I.Bd k z.2∧Nat.gcd z.1 z.2=d)→
  Gd PP 124 (.ag (dI (d:Int))) (lp fgcd 0) (at_ fgcd [(4,.lp 2 0),(5,.lp 3 0),(6,.lp 4 0)] [.dead,.dead,.bx 32 [bo false,.nl],.bx 32 (dI (z.1:Int)),.bx 32 (dI (z.2:Int))]):=by
 refine Gd.loop (fun z:Nat×Nat=>at_ fgcd [(4,.lp 2 0),(5,.lp 3 0),(6,.lp 4 0)] [.dead,.dead,.bx 32 [bo false,.nl],.bx 32 (dI (z.1:Int)),.bx 32 (dI (z.2:Int))]) _ (fun z=>z.2) ?_
 rintro ⟨u,v⟩ ⟨bu,bv,hd⟩ ih
 simp only at bu bv hd ih⊢
 have lu:=bd_len bu
 have lv:=bd_len bv
 by_cases hv:v=0
 · subst hv
   rw[Nat.gcd_zero_right]at hd
   subst hd
   exact fi [na (t:=decide (((zs (digs ((0:Nat):Int).natAbs)).length:Int)>0)) (by rw[digs_z (x:=((0:Nat):Int)) rfl];rfl)] (by kernel_rfl) (by kernel_rfl)
 have f0:decide (((zs (digs (v:Int).natAbs)).length:Int)>0)=true:=by
  have:=digs_nz (x:=(v:Int)) (by omega)
  rw[zs_len];exact decide_eq_true (by omega)
 have hlt:u % v<v:=Nat.mod_lt _ (by omega)
 have hdv:=e_divide (digs_ok (u:Int).natAbs).1 (digs_ok (v:Int).natAbs).1 (by omega) (by rw[nat_val];omega)
 rw[nat_val,nat_val,show((u:Int) / (v:Int))=((u / v:Nat):Int)by omega,show((u:Int) % (v:Int))=((u % v:Nat):Int)by omega]at hdv
 have hnext:=ih (v,u % v) ⟨bv,bv.of_le (by simp only[Int.natAbs_natCast];omega),by simp only;rw[gcd_swap];exact hd⟩ (by simp only;omega)
 by_cases h1:(digs (u:Int).natAbs).length≤2
 · have t1:=two_yes dig_ h1
   have w1:=two_lt dig_ h1
   rw[nat_val]at t1 w1
   by_cases h2:(digs (v:Int).natAbs).length≤2
   · have t2:=two_yes dig_ h2
     have w2:=two_lt dig_ h2
     rw[nat_val]at t2 w2
     have hs:=gcd_small (u,v) ⟨by simp only;omega,by simp only;omega⟩
     simp only at hs
     rw[hd]at hs
     exact .to mo_ [] [4,7,9] [2] 3 [ye f0,cl t1,cl t2,yt,yt] hs (by kernel_rfl)
   · exact .to mo_ [] [4,5,6] [2,3,4] 5 [ye f0,cl t1,cl (two_no dig_ h2),yt,nf,cl hdv] hnext (by kernel_rfl)
 · by_cases h2:(digs (v:Int).natAbs).length≤2
   · exact .to mo_ [] [4,5,6] [2,3,4] 5 [ye f0,cl (two_no dig_ h1),cl (two_yes dig_ h2),nf,nf,cl hdv] hnext (by kernel_rfl)
   · exact .to mo_ [] [4,5,6] [2,3,4] 5 [ye f0,cl (two_no dig_ h1),cl (two_no dig_ h2),nf,nf,cl hdv] hnext (by kernel_rfl)
theorem e_gcd (bx:I.Bd k x) (by_:I.Bd k y) (hk:k≤1000000000000):Pure PP 124 [.ag (dI x),.ag (dI y)] (.ag (dI (Int.gcd x y))):=by
 have o1:=e_of_ false (dig_ (x:=x))
 have o2:=e_of_ false (dig_ (x:=y))
 rw[sg_f,val_]at o1 o2
 have hg:=gcd_loop (k:=k) (d:=Nat.gcd x.natAbs y.natAbs) (by omega) (x.natAbs,y.natAbs) ⟨by unfold I.Bd at*;simpa using bx,by unfold I.Bd at*;simpa using by_,rfl⟩
 exact pf (by kernel_rfl) (.to mo_ [] [4,5,6] [2,3,4] 5 [cl o1,cl o2] hg (by kernel_rfl))
/-- Is a number below the base? -/
theorem e_bad (d:Int):Pure PP 162 [ni d] (bo (decide (d<0∨d≥1000000000))):=by
 by_cases h0:d<0
 · rw[decide_eq_true (.inl h0)]
   exact tr [ye (decide_eq_true h0)] (by kernel_rfl)
 · rw[show decide (d<0∨d≥1000000000)=decide (d≥1000000000)by simp[h0]]
   exact tr [na (decide_eq_false h0)] (by kernel_rfl)
end
end Go.Proofs.YtfdfbenejkmnlaaGreatDoor.E
namespace Go.Proofs.YtfdfbenejkmnlaaGreatDoor.E
open Go.RowKit
set_option linter.unusedVariables false
theorem e_normal (ng:Bool) {l:List Int} (hd:I.Dig l):Pure PP 154 [bo ng,zl l] (.ag (dI (sg ng (I.val l)))):=by
 refine .len 1 (l:=zs l) (by kernel_rfl) rfl fun hm=> ?_
 rw[zs_len]at hm
 unfold maxLen at hm
 let X:Nat→St:=fun k=>at_ (fnOf PP 154) [(0,bo ng),(1,zl l),(4,.lp 0 0),(5,ni k)] [.bx 32 [bo false,.nl]]
 refine pf (by kernel_rfl) (.to mo_ [] [0,1,4,5] [0] 1 [.eqv 7 (ni ((zs l).length:Int)) (ni (l.length:Int)) (by rw[zs_len])] (td':=lp (fnOf PP 154) 0) (σ':=X l.length) ?_ (by kernel_rfl))
 refine Gd.loop X (fun k=>k≤l.length∧∀ j,k≤j→j<l.length→l[j]? =some 0) (fun k=>k) ?_ _ ⟨Nat.le_refl _,fun j h1 h2=>by omega⟩
 intro k ⟨hk,hz⟩ ih
 have hv:=I.val_take_zeros hz
 cases k with
 |zero=>
   rw[←hv,List.take_zero,show sg ng (I.val [])=0 by unfold sg;cases ng<;>rfl,dI_0]
   exact fi [na (t:=decide (((0:Nat):Int)>0)) rfl,nf,ye (t:=((0:Nat):Int)==0) rfl] (by kernel_rfl) (by kernel_rfl)
 |succ j=>
   have e:=num_el (l:=l) (i:=j) (by omega)
   generalize l.getD j 0=d at e
   let F0:List F_:=[ye (t:=decide (((j+1:Nat):Int)>0)) (decide_eq_true (by omega)),wq 13 (((j+1:Nat):Int) - 1) j (by omega),.eqv 14 (ni (if(0:Int)>(j:Int)then 0 else(j:Int))) (ni j) (by rw[if_neg (by omega)]),.sel _ _ _ (zs_at e)]
   by_cases h:d=0
   · subst h
     exact .to mo_ [] [0,1,4,5] [0] 1 (F0++[yt,wq 20 (((j+1:Nat):Int) - 1) j (by omega)]) (ih j ⟨by omega,fun i h1 h2=>by
       rcases Nat.lt_or_ge j i with h3|h3
       · exact hz i h3 h2
       · rw[show i=j by omega];exact e⟩ (by omega)) (by kernel_rfl)
   · have hc:=I.can_take hd hk (.inr ⟨d,e,h⟩)
     have hp:=hc.pos (by intro e2;rcases List.take_eq_nil_iff.1 e2 with h5|h5;exact absurd h5 (by omega);rw[h5]at hk;simp at hk)
     have hp2:=I.pw_pos ((l.take (j+1)).length - 1)
     rw[dI_of (u:=I.val l) hc hv (by omega)]
     exact fi (F0++[na (t:=d==0) (by simpa using h),na (t:=((j+1:Nat):Int)==0) (by simp;omega),.slc (zs l) 0 (j+1) 1 (zs (l.take (j+1))) (by rw[List.drop_zero,zs_take]) (by rw[zs_len];omega) (zs_z l)]) (by kernel_rfl) (by kernel_rfl)
noncomputable abbrev fof3:Func:=fnOf PP 105
section
variable {x y:Int} {j k:Nat} {a b:List Int}
theorem of3_step {r:List Int} {i:Nat} {q:Int} (hl:r.length=i) (h:I.val r+I.pw i*q=x):I.val (r++[q % 1000000000])+I.pw (i+1)*(q / 1000000000)=x:=by
 rw[I.val_snoc,hl,I.pw_succ]
 have h2:=Int.mul_ediv_add_emod q 1000000000
 generalize q % 1000000000=s at*
 generalize q / 1000000000=t at*
 grind
theorem of3_few {r:List Int} {i:Nat} {q:Int} (hd:I.Dig r) (h:I.val r+I.pw i*q=x) (hq:0<q) (hx:x≤9223372036854775808):i<3:=by
 rcases Nat.lt_or_ge i 3 with h1|h1
 · exact h1
 · have h2:=I.pw_mono h1
   have h3:I.pw 3=1000000000000000000000000000:=by decide
   have h4:=I.val_nonneg hd
   have h5:I.pw i*1≤I.pw i*q:=Int.mul_le_mul_of_nonneg_left (by omega) (by omega)
   omega
theorem e_of3 (hx:W.Is64 x):Pure PP 105 [ni x] (.ag (dI x)):=by
 unfold W.Is64 at hx
 obtain⟨s,hs⟩:∃ s,decide (x<0)=s:=⟨_,rfl⟩
 let X:Nat×List Int×Int→St:=fun z=>at_ fof3 [(0,ni (sg s z.2.2)),(2,.lp 0 0),(3,.ow 1),(4,bo s)] [.bx 32 [bo false,.nl],.rw 3 1 (zs z.2.1)]
 have hx0:x=sg s (x.natAbs:Int):=by rw[←hs,sg_nat]
 have key : ∀ z : Nat × List Int × Int, (z.2.1.length = z.1 ∧ I.Dig z.2.1 ∧ 0 ≤ z.2.2 ∧ z.2.2 ≤ 9223372036854775808 ∧ I.val z.2.1 + I.pw z.1 * z.2.2 = (x.natAbs : Int)) → Gd PP 105 (.ag (dI x)) (lp fof3 0) (X z) := by
  refine Gd.loop X _ (fun z=>z.2.2.toNat) ?_
  rintro ⟨i,r,q⟩ ⟨hl,dr,q0,q1,hv⟩ ih
  simp only at hl dr q0 q1 hv ih
  by_cases hq:q=0
  · subst hq
    rw[Int.mul_zero,Int.add_zero]at hv
    have hn:=e_normal s dr
    rw[hv,←hx0]at hn
    have e0:sg s 0=0:=by unfold sg;cases s<;>rfl
    exact fi [na (t:=sg s 0 != 0) (by rw[e0];rfl),cl hn] (by kernel_rfl) (by kernel_rfl)
  · have hi:=of3_few dr hv (by omega) (by omega)
    have hz:(sg s q != 0)=true:=by unfold sg;cases s<;>simp<;>omega
    have hnx:=ih (i+1,r++[q % 1000000000],q / 1000000000) ⟨by simp[hl],dr.snoc (by omega) (by omega),by simp only;omega,by simp only;omega,of3_step hl hv⟩ (by simp only;omega)
    have gm:(sg s q).tmod 1000000000=sg s (q % 1000000000):=by unfold sg;cases s<;>simp[Int.neg_tmod,tm_ q0]
    have gd:(sg s q).tdiv 1000000000=sg s (q / 1000000000):=by unfold sg;cases s<;>simp[Int.neg_tdiv,td_ q0]
    let FA:List F_:=[.app (zs r) [[ni (q % 1000000000)]] (zs (r++[q % 1000000000])) 10 (zs_one ..) (by simp) (by rw[zs_len];simp;omega),wq 21 ((sg s q).tdiv 1000000000) (sg s (q / 1000000000)) ⟨gd,by unfold sg;split<;>omega,by unfold sg;split<;>omega⟩]
    by_cases hneg:sg s (q % 1000000000)<0
    · have e5:sg s (q % 1000000000)= -(q % 1000000000):=by unfold sg at hneg⊢;cases s<;>simp at hneg⊢;omega
      exact .to mo_ [.mv 1 3] [0,2,3,4] [0,1] 2 ([ye hz,.eqv 11 (ni ((sg s q).tmod 1000000000)) (ni (sg s (q % 1000000000))) (ni_eq gm),ye (decide_eq_true hneg),wq 15 (0 - sg s (q % 1000000000)) (q % 1000000000) (by omega)]++FA) hnx (by kernel_rfl)
    · have e5:sg s (q % 1000000000)=q % 1000000000:=by unfold sg at hneg⊢;cases s<;>simp at hneg⊢;omega
      exact .to mo_ [.mv 1 3] [0,2,3,4] [0,1] 2 ([ye hz,.eqv 11 (ni ((sg s q).tmod 1000000000)) (ni (q % 1000000000)) (ni_eq (gm.trans e5)),na (decide_eq_false (show¬q % 1000000000<0 by omega))]++FA) hnx (by kernel_rfl)
 have h0:=key (0,[],(x.natAbs:Int)) ⟨rfl,I.Dig.nil,by simp only;omega,by simp only;omega,by simp[I.val,I.pw_zero]⟩
 simp only[X]at h0
 rw[←hx0]at h0
 subst hs
 exact pf (by kernel_rfl) (.to mo_ [.ow 3 (.rw 3 1 [])] [0,2,3,4] [0,1] 2 [] h0 (by kernel_rfl))
theorem e_neg3 (x:Int):Pure PP 152 [.ag (dI x)] (.ag (dI (-x))):=by
 have h:=e_normal (!decide (x<0)) (dig_ (x:=x))
 rw[val_,sg_not]at h
 exact tr [cl h] (by kernel_rfl)
theorem e_compared (ca:I.Can a) (cb:I.Can b):Pure PP 175 [zl a,zl b] (ni (cmpZ (I.val a) (I.val b))):=by
 refine .len 0 (l:=zs a) (by kernel_rfl) rfl fun hm=> ?_
 rw[zs_len]at hm
 unfold maxLen at hm
 by_cases h1:a.length<b.length
 · rw[←cmp_len ca cb (by omega),cmpZ_lt (by omega)]
   exact tr [ye (t:=decide (((zs a).length:Int)<((zs b).length:Int))) (decide_eq_true (by rw[zs_len,zs_len];omega))] (by kernel_rfl)
 by_cases h2:b.length<a.length
 · rw[←cmp_len ca cb (by omega),cmpZ_gt (by omega)]
   exact tr [na (t:=decide (((zs a).length:Int)<((zs b).length:Int))) (decide_eq_false (by rw[zs_len,zs_len];omega)),ye (t:=decide (((zs a).length:Int)>((zs b).length:Int))) (decide_eq_true (by rw[zs_len,zs_len];omega))] (by kernel_rfl)
 have hlen:a.length=b.length:=by omega
 let X:Int→St:=fun k=>at_ (fnOf PP 175) [(0,zl a),(1,zl b),(5,ni k)] []
 refine pf (by kernel_rfl) (.to mo_ [] [0,1,5] [] 0 [na (t:=decide (((zs a).length:Int)<((zs b).length:Int))) (decide_eq_false (by rw[zs_len,zs_len];omega)),na (t:=decide (((zs a).length:Int)>((zs b).length:Int))) (decide_eq_false (by rw[zs_len,zs_len];omega)),.eqv 17 (ni ((zs a).length:Int)) (ni a.length) (by rw[zs_len]),wq 18 ((a.length:Int) - 1) ((a.length:Int) - 1) (by omega)] (td':=lp (fnOf PP 175) 0) (σ':=X ((a.length:Int) - 1)) ?_ (by kernel_rfl))
 refine Gd.loop (fun k:Nat=>X ((k:Int) - 1)) (fun k=>k≤a.length∧a.drop k=b.drop k) (fun k=>k) ?_ a.length ⟨Nat.le_refl _,by rw[List.drop_of_length_le (Nat.le_refl _),List.drop_of_length_le (by omega)]⟩
 intro k ⟨hk,hd⟩ ih
 cases k with
 |zero=>
   rw[show I.val a=I.val b by rw[show a=b by simpa using hd],cmpZ_eq rfl]
   exact fi [na (t:=decide ((((0:Nat):Int) - 1)≥0)) (by decide)] (by kernel_rfl) (by kernel_rfl)
 |succ j=>
   have ea:=num_el (l:=a) (i:=j) (by omega)
   have eb:=num_el (l:=b) (i:=j) (by omega)
   generalize a.getD j 0=d at ea
   generalize b.getD j 0=e at eb
   show Gd PP _ _ _ (X (((j+1:Nat):Int) - 1))
   rw[show((j+1:Nat):Int) - 1=(j:Int)by omega]
   let F0:List F_:=[ye (t:=decide ((j:Int)≥0)) (by simp),.sel _ _ _ (zs_at ea),.sel _ _ _ (zs_at eb)]
   by_cases h:d=e
   · subst h
     exact .to mo_ [] [0,1,5] [] 0 (F0++[na (t:=decide (d<d)) (by simp),.sel _ _ _ (zs_at ea),.sel _ _ _ (zs_at eb),na (t:=decide (d>d)) (by simp),wq 22 ((j:Int) - 1) ((j:Int) - 1) (by omega)]) (ih j ⟨by omega,by rw[I.drop_cons ea,I.drop_cons eb,hd]⟩ (by omega)) (by kernel_rfl)
   · rw[←cmp_at ca.1 cb.1 ea eb hd h]
     by_cases h3:d<e
     · rw[cmpZ_lt h3]
       exact fi (F0++[ye (decide_eq_true h3)]) (by kernel_rfl) (by kernel_rfl)
     · rw[cmpZ_gt (by omega)]
       exact fi (F0++[na (decide_eq_false h3),.sel _ _ _ (zs_at ea),.sel _ _ _ (zs_at eb),ye (t:=decide (d>e)) (decide_eq_true (by omega))]) (by kernel_rfl) (by kernel_rfl)
theorem e_cmp3 (x y:Int):Pure PP 180 [.ag (dI x),.ag (dI y)] (ni (cmpZ x y)):=by
 obtain⟨cx,vx⟩:=digs_ok x.natAbs
 obtain⟨cy,vy⟩:=digs_ok y.natAbs
 by_cases h0:x<0<;>by_cases h1:y<0
 · have h:=e_compared cy cx
   rw[show cmpZ (I.val (digs y.natAbs)) (I.val (digs x.natAbs))=cmpZ x y by rw[vx,vy];unfold cmpZ;grind]at h
   exact tr [na (t:=decide (x<0) != decide (y<0)) (by simp[h0,h1]),ye (decide_eq_true h0),cl h] (by kernel_rfl)
 · rw[cmpZ_lt (by omega)]
   exact tr [ye (t:=decide (x<0) != decide (y<0)) (by simp[h0,h1]),ye (decide_eq_true h0)] (by kernel_rfl)
 · rw[cmpZ_gt (by omega)]
   exact tr [ye (t:=decide (x<0) != decide (y<0)) (by simp[h0,h1]),na (decide_eq_false h0)] (by kernel_rfl)
 · have h:=e_compared cx cy
   rw[show cmpZ (I.val (digs x.natAbs)) (I.val (digs y.natAbs))=cmpZ x y by rw[vx,vy];unfold cmpZ;grind]at h
   exact tr [na (t:=decide (x<0) != decide (y<0)) (by simp[h0,h1]),na (decide_eq_false h0),cl h] (by kernel_rfl)
theorem e_sign3 (x:Int):Pure PP 178 [.ag (dI x)] (ni (sgnZ x)):=by
 have h:=e_cmp3 x 0
 rw[dI_0]at h
 exact tr [cl h] (by kernel_rfl)
theorem e_digit (l:List Int) (i:Nat):Pure PP 190 [zl l,ni i] (ni (I.dg l i)):=by
 by_cases h:i<l.length
 · have e:=num_el h
   rw[I.dg_some e]
   exact tr [ye (t:=decide ((i:Int)<((zs l).length:Int))) (decide_eq_true (by rw[zs_len];omega)),.sel _ _ _ (zs_at e)] (by kernel_rfl)
 · rw[I.dg_none (by omega)]
   exact tr [na (t:=decide ((i:Int)<((zs l).length:Int))) (decide_eq_false (by rw[zs_len];omega))] (by kernel_rfl)
end
end Go.Proofs.YtfdfbenejkmnlaaGreatDoor.E
