/-
 THE LAW ArchiveMerges, plain: two archives with a common past take what they want of each other.
-/
import Derived.Test.YtfdfbenejkmnlaaGreatDoorEpT
namespace Go.Proofs.YtfdfbenejkmnlaaGreatDoor.E.Ca
open Go.RowKit Hs
set_option linter.unusedVariables false
set_option linter.unusedSimpArgs false
section
variable {P X Y L M:List CQ} {q r c:CQ} {b:Int} {i j k n:Nat} {H:List (Int×DG)}
theorem chn_append (A B:List CQ) (b:Int):chn (A++B) b=chn A b++chn B b:=List.filter_append ..
theorem chn_all (h:∀ q∈X,q.by_=b):chn X b=X:=List.filter_eq_self.2 fun q hq=>decide_eq_true (h q hq)
theorem chn_none {d:Int} (h:∀ q∈X,q.by_=d) (hb:d≠b):chn X b=[]:=List.filter_eq_nil_iff.2 fun q hq=>by
 rw[h q hq]
 simpa using hb
/-- Two archives that grew apart from a past. -/
structure Two (n:Nat) (P X Y:List CQ) (d e:Int):Prop where
 ax:Arc n (P++X)
 ay:Arc n (P++Y)
 bx:∀ q∈X,q.by_=d
 by_:∀ q∈Y,q.by_=e
 ne:d≠e
 ln:P.length+X.length+Y.length≤100
theorem Two.swap {d e:Int} (h:Two n P X Y d e):Two n P Y X e d:=⟨h.ay,h.ax,h.by_,h.bx,fun g=>h.ne g.symm,by have:=h.ln;omega⟩
theorem chn_P {d e:Int} (h:Two n P X Y d e) (b:Int) (i:Nat) (hb:b≠d):chn (P++X++Y.take i) b=chn (P++Y.take i) b:=by
 rw[chn_append,chn_append,chn_append,chn_none h.bx (fun g=>hb g.symm),List.append_nil]
/-- What the one wants of the other one can be taken. -/
theorem two_take {d e:Int} (h:Two n P X Y d e):∀ (k i:Nat) (m:Int),i+k=Y.length→Arc n (P++X++Y.take i)→takL n (P++X++Y.take i) (Y.drop i) m=(P++X++Y,m+k,0)
 |0,i,m,hi,ha=>by
  rw[List.drop_eq_nil_of_le (by omega),List.take_of_length_le (by omega),takL]
  simp
 |k+1,i,m,hi,ha=>by
  obtain⟨q,hq⟩:∃ q,Y[i]? =some q:=⟨_,List.getElem?_eq_getElem (by omega)⟩
  have dr:Y.drop i=q::Y.drop (i+1):=by
   obtain⟨l1,g1⟩:=List.getElem?_eq_some_iff.1 hq
   rw[List.drop_eq_getElem_cons l1,g1]
  have hqm:q∈P++Y:=List.mem_append_right _ (List.mem_of_getElem? hq)
  have hqb:=h.by_ q (List.mem_of_getElem? hq)
  have tk1:Y.take (i+1)=Y.take i++[q]:=by rw[List.take_add_one,hq];rfl
  have hpos:(P++Y)[P.length+i]? =some q:=by rw[List.getElem?_append_right (by omega),show P.length+i - P.length=i by omega];exact hq
  have tkP:(P++Y).take (P.length+i)=P++Y.take i:=by rw[List.take_append,List.take_of_length_le (by omega),show P.length+i - P.length=i by omega]
  have sub:∀ x∈P++Y.take i,x∈P++X++Y.take i:=fun x hx=>by
   rcases List.mem_append.1 hx with hx|hx
   · exact List.mem_append_left _ (List.mem_append_left _ hx)
   · exact List.mem_append_right _ hx
  have hch:chn (P++X++Y.take i) q.by_=chn (P++Y.take i) q.by_:=chn_P h q.by_ i (by rw[hqb];exact fun g=>h.ne g.symm)
  have key:=h.ay.seq_at hpos
  rw[tkP,←hch]at key
  have hln:=h.ln
  have tf:=tk_fresh (c:=q) ha (h.ay.va q hqm) (h.ay.by_ q hqm) key (fun p hp=>by
   obtain⟨r,h1,h2,h3⟩:=h.ay.rf _ q hpos p hp
   rw[tkP]at h1
   exact⟨r,sub r h1,h2,h3⟩) (fun h0=>by
   obtain⟨r,h1,h2,h3⟩:=arc_prev h.ay hqm h0
   have h4:=(h.ay.at_ h1).1
   have e1:r.by_=q.by_:=congrArg Prod.fst h2
   have e2:r.seq=q.seq - 1:=congrArg Prod.snd h2
   have hsq:q.seq=((chn (P++Y.take i) q.by_).length:Int):=by rw[←hch];exact key
   have hlt:(q.seq - 1).toNat<(chn (P++Y.take i) q.by_).length:=by omega
   have hsp:chn (P++Y) q.by_=chn (P++Y.take i) q.by_++chn (Y.drop i) q.by_:=by rw[←chn_append,List.append_assoc,List.take_append_drop]
   rw[e1,e2,hsp,List.getElem?_append_left hlt]at h4
   have hm:=chn_mem.1 (List.mem_of_getElem? h4)
   exact⟨r,by rw[←h2];exact fnd_of ha (sub r hm.1),h3⟩) (by rw[List.length_append,List.length_append,List.length_take];omega)
  obtain⟨t1,t2,t3⟩:=tf
  have e3:P++X++Y.take i++[q]=P++X++Y.take (i+1):=by rw[tk1,←List.append_assoc]
  have ha2:=tkL_arc ha (h.ay.sq q hqm) (h.ay.fb q hqm)
  rw[t3,e3]at ha2
  rw[dr,takL,if_pos t1,t2,t3,if_pos rfl,e3,two_take h k (i+1) (m+1) (by omega) ha2]
  congr 2
  omega
theorem two_all {d e:Int} (h:Two n P X Y d e):takL n (P++X) Y 0=(P++X++Y,(Y.length:Int),0):=by
 have:=two_take h Y.length 0 0 (by omega) (by rw[List.take_zero,List.append_nil];exact h.ax)
 rw[List.take_zero,List.append_nil,List.drop_zero]at this
 simpa using this
theorem two_arc {d e:Int} (h:Two n P X Y d e):Arc n (P++X++Y):=by
 have:=takL_arc Y (P++X) 0 h.ax fun c hc=>⟨h.ay.sq c (List.mem_append_right _ hc),h.ay.fb c (List.mem_append_right _ hc)⟩
 rw[two_all h]at this
 exact this
/-- The chains of both, once they have all. -/
theorem two_chn {d e:Int} (h:Two n P X Y d e) (b:Int):chn (P++X++Y) b=chn (P++Y++X) b:=by
 rw[chn_append,chn_append,chn_append,chn_append]
 by_cases h1:d=b
 · rw[chn_none h.by_ (fun g=>h.ne (h1.trans g.symm)),List.append_nil,List.append_nil]
 · rw[chn_none h.bx h1,List.append_nil,List.append_nil]
theorem two_hds {d e:Int} (h:Two n P X Y d e):hdsL n (P++X++Y)=hdsL n (P++Y++X):=by
 unfold hdsL
 apply List.map_congr_left
 intro k _
 rw[two_chn h]
theorem hds_at (hk:k<n):(hdsL n L).getD k (0,zD)=(((chn L (k:Int)).length:Int),sumW (chn L (k:Int))):=by
 unfold hdsL
 rw[List.getD_eq_getElem?_getD,List.getElem?_map,List.getElem?_range hk]
 rfl
theorem hds_len:(hdsL n L).length=n:=by unfold hdsL;rw[List.length_map,List.length_range]
theorem hds_ok' (ha:Arc n L):(hdsL n L).any badH=false:=by
 rw[List.any_eq_false]
 intro x hx
 unfold hdsL at hx
 obtain⟨j,_,rfl⟩:=List.mem_map.1 hx
 have:=chn_le L (j:Int)
 have:=ha.len
 unfold badH
 simp only[Bool.or_eq_true,decide_eq_true_eq]
 omega
/-- Heads of an archive whose chains begin alike are no error. -/
theorem want_ok (ha:Arc n L) (hM:∀ k:Nat,k<n→(chn L (k:Int)).length≤(chn M (k:Int)).length→(chn M (k:Int)).take (chn L (k:Int)).length=chn L (k:Int)):wantE n M (hdsL n L)=0:=by
 unfold wantE
 rw [if_neg (by rw [hds_len, hds_ok' ha]; simp), if_neg (by
  rw[Bool.not_eq_true,List.any_eq_false]
  intro k hk
  have hkn:=List.mem_range.1 hk
  rw[hds_at hkn]
  unfold oddH
  by_cases hle:(chn L (k:Int)).length≤(chn M (k:Int)).length
  · simp only[Int.toNat_natCast]
    rw[hM k hkn hle,dgE_refl]
    simp
  · rw[decide_eq_false (by simp only;omega)]
    simp)]
theorem two_wantE {d e:Int} (h:Two n P X Y d e):wantE n (P++Y) (hdsL n (P++X))=0:=by
 refine want_ok h.ax fun k hk hle=> ?_
 rw[chn_append,chn_append]at hle⊢
 by_cases h1:d=(k:Int)
 · rw[chn_none h.by_ (fun g=>h.ne (h1.trans g.symm)),List.append_nil]at hle⊢
   rw[List.length_append]at hle⊢
   have h0:chn X (k:Int)=[]:=List.length_eq_zero_iff.1 (by omega)
   rw[h0,List.append_nil,List.length_nil,Nat.add_zero,List.take_length]
 · rw[chn_none h.bx h1,List.append_nil,List.take_left]
theorem knw_of (hk:q.by_=(k:Int)) (hkn:k<n):knwn (hdsL n L) q.cm=decide (q.seq<((chn L (k:Int)).length:Int)):=by
 unfold knwn
 rw[show q.cm.by_.toNat=k by show q.by_.toNat=k;omega,hds_at hkn]
 rfl
theorem by_nat (ha:Arc n L) (hq:q∈L):∃ k:Nat,q.by_=(k:Int)∧k<n:=by
 have v:=va_0 (ha.va q hq)
 have v1:0≤q.by_:=v.2.1
 have:=ha.by_ q hq
 exact⟨q.by_.toNat,by omega,by omega⟩
/-- A claim whose museum's chain there is not longer than ours is known. -/
theorem knw_all (ha:Arc n L) (hq:q∈L) (hM:(chn L q.by_).length≤(chn M q.by_).length):knwn (hdsL n M) q.cm=true:=by
 obtain⟨k,h1,h2⟩:=by_nat ha hq
 have h3:=ha.at_ hq
 have h4:=(List.getElem?_eq_some_iff.1 h3.1).1
 rw[knw_of h1 h2]
 rw[h1]at h4 hM
 exact decide_eq_true (by omega)
theorem two_want {d e:Int} (h:Two n P X Y d e):kpt (knwn (hdsL n (P++X))) (sorted (P++Y))=Y:=by
 have mem : ∀ q, q ∈ kpt (knwn (hdsL n (P ++ X))) (sorted (P ++ Y)) ↔ q ∈ Y := fun q => by
  unfold kpt
  rw[List.mem_filter,sorted_mem h.ay]
  constructor
  · rintro ⟨h1,h2⟩
    rcases List.mem_append.1 h1 with h3|h3
    · have:=knw_all (L:=P++X) (M:=P++X) h.ax (List.mem_append_left _ h3) (Nat.le_refl _)
      rw[this]at h2
      cases h2
    · exact h3
  · intro h1
    have hm:q∈P++Y:=List.mem_append_right _ h1
    refine⟨hm, ?_⟩
    obtain⟨k,hk,hkn⟩:=by_nat h.ay hm
    have hqb:=h.by_ q h1
    rw[knw_of hk hkn]
    obtain⟨i,hi⟩:=List.getElem?_of_mem h1
    have hpos:(P++Y)[P.length+i]? =some q:=by rw[List.getElem?_append_right (by omega),show P.length+i - P.length=i by omega];exact hi
    have key:=h.ay.seq_at hpos
    have tkP:(P++Y).take (P.length+i)=P++Y.take i:=by rw[List.take_append,List.take_of_length_le (by omega),show P.length+i - P.length=i by omega]
    rw[tkP,chn_append,List.length_append,hk]at key
    have e0:chn X (k:Int)=[]:=chn_none h.bx (by rw[←hk,hqb];exact h.ne)
    rw[chn_append,e0,List.append_nil,decide_eq_false (by omega)]
    rfl
 refine strict_eq cmp2_cmp ((sorted_pw _).filter _) ?_ mem
 rw[List.pairwise_iff_getElem]
 intro i j hi hj hij
 have h1:=List.getElem?_eq_getElem hi
 have h2:=List.getElem?_eq_getElem hj
 have c:chn Y e=Y:=chn_all h.by_
 have sp:chn (P++Y) e=chn P e++Y:=by rw[chn_append,c]
 have g1:(chn (P++Y) e)[(chn P e).length+i]? =some Y[i]:=by rw[sp,List.getElem?_append_right (by omega),show(chn P e).length+i - (chn P e).length=i by omega];exact h1
 have g2:(chn (P++Y) e)[(chn P e).length+j]? =some Y[j]:=by rw[sp,List.getElem?_append_right (by omega),show(chn P e).length+j - (chn P e).length=j by omega];exact h2
 exact cmp2_tick (h.ay.tk e _ _ _ _ g1 g2 (by omega))
/-- Nothing is wanted of one with the same chains. -/
theorem same_want (ha:Arc n L) (hM:Arc n M) (hc:∀ b,chn L b=chn M b):wantE n L (hdsL n M)=0∧kpt (knwn (hdsL n M)) (sorted L)=[]:=by
 refine⟨want_ok hM fun k hk hle=>by rw[hc,List.take_length], ?_⟩
 unfold kpt
 rw[List.filter_eq_nil_iff]
 intro q hq
 have hq:=sorted_sub hq
 rw[knw_all ha hq (by rw[hc];exact Nat.le_refl _)]
 simp
theorem two_sorted {d e:Int} (h:Two n P X Y d e):sorted (P++Y++X)=sorted (P++X++Y):=sorted_same (two_arc h).sq fun q=>by
 simp only[List.mem_append]
 constructor<;>rintro ((g|g)|g)<;>simp[g]
end
end Go.Proofs.YtfdfbenejkmnlaaGreatDoor.E.Ca
