/-
 THE LAW ArchiveMerges: what both take of each other.
-/
import Derived.Test.YtfdfbenejkmnlaaGreatDoorDqE
import Derived.Test.YtfdfbenejkmnlaaGreatDoorLawO
namespace Go.Proofs.YtfdfbenejkmnlaaGreatDoor.E.Ca
open Go.RowKit Hs
set_option linter.unusedVariables false
set_option linter.unusedSimpArgs false
section
variable {P X Y L M:List CQ} {q r c:CQ} {b t:Int} {i j k n:Nat} {l m o:List Int}
theorem mg_3 (h:Two 3 P X Y 0 1):GMg (rg fMg 16) (mg3 P X Y):=by
 have ln:=h.ln
 have hs:=h.swap
 have hA:=two_arc h
 have hB:=two_arc hs
 have f1:=e_filled h.ax
 have f2:=e_filled h.ay
 have d1:=e_headsZ h.ax
 have d2:=e_headsZ h.ay
 have hl:∀ L:List CQ,(hdsL 3 L).length≤100000:=fun L=>by rw[hds_len];omega
 have q1:=e_want0 h.ay (hl _) (two_wantE h)
 have q2:=e_want0 h.ax (hl _) (two_wantE hs)
 rw[two_want h]at q1
 rw[two_want hs]at q2
 have t1:=e_takeL h.ax (l:=Y) (fun c hc=>⟨h.ay.sq c (List.mem_append_right _ hc),h.ay.fb c (List.mem_append_right _ hc)⟩) (by omega)
 have t2:=e_takeL h.ay (l:=X) (fun c hc=>⟨h.ax.sq c (List.mem_append_right _ hc),h.ax.fb c (List.mem_append_right _ hc)⟩) (by omega)
 rw[two_all h]at t1
 rw[two_all hs]at t2
 simp only at t1 t2
 have d3:=e_headsZ hA
 have d4:=e_headsZ hB
 obtain⟨u1,u2⟩:=same_want (L:=P++Y++X) (M:=P++X++Y) hB hA fun b=>(two_chn h b).symm
 obtain⟨v1,v2⟩:=same_want (L:=P++X++Y) (M:=P++Y++X) hA hB fun b=>two_chn h b
 have q3:=e_want0 hB (hl _) u1
 have q4:=e_want0 hA (hl _) v1
 rw[u2]at q3
 rw[v2]at q4
 have c1:=e_claims hA (M:=P++X++Y) fun p=>rfl
 have c2:=e_claims hB (M:=P++Y++X) fun p=>rfl
 rw[two_sorted h]at c2
 have sm:=e_sameAll (sorted (P++X++Y))
 have so:=e_rsort (L:=P++X++Y) hA.sq (by rw[List.length_append,List.length_append];omega)
 have g1:=e_lheads hA
 have g2:=e_lheads hB
 rw[←two_hds h]at g2
 have sh:=e_sameH (H:=hdsL 3 (P++X++Y)) (by rw[hds_len];omega)
 have a1:=apw (b:=9) (j:=10) (by omega) [] (P++X) (by rw[List.nil_append,List.length_append];omega)
 rw[List.nil_append]at a1
 have a2:=apz (b:=10) (j:=11) (by omega) (P++X) Y (by rw[List.length_append,List.length_append];omega)
 have sl_:(((P++Y).map dQ).take ((P++Y).map dQ).length).drop P.length=Y.map dQ:=by rw[List.take_length,List.map_append,List.drop_append,List.drop_eq_nil_of_le (by rw[List.length_map];omega),List.length_map,Nat.sub_self];rfl
 have eP:ni ((P.map dQ).length:Int)=ni (P.length:Int):=by rw[List.length_map]
 have n1:((Y.length:Int) != (Y.length:Int))=false:=by simp
 have n2:((X.length:Int) != (X.length:Int))=false:=by simp
 have zz:=dQs_z (P++Y)
 have w1:(((P++Y).map dQ).length:Int) - ((P.map dQ).length:Int)=(Y.length:Int):=by rw[List.length_map,List.length_map,List.length_append];omega
 have w2:(((P++X).map dQ).length:Int) - ((P.map dQ).length:Int)=(X.length:Int):=by rw[List.length_map,List.length_map,List.length_append];omega
 have w3:P.length≤((P++Y).map dQ).length∧((P++Y).map dQ).length≤((P++Y).map dQ).length:=⟨by rw[List.length_map,List.length_append];omega,Nat.le_refl _⟩
 have hx:X.length≤100:=by omega
 have hy:Y.length≤100:=by omega
 unfold mg3
 unfold PW wR at*
 unfold hA_ hD_ slH aR slQ at*
 simp only[List.map_nil]at q3 q4 a1
 generalize allP (P++X++Y) 3=A1 at*
 generalize allP (P++Y++X) 3=A2 at*
 generalize A1.map dQ=B1 at*
 generalize A2.map dQ=B2 at*
 generalize (sorted (P++X++Y)).map dQ=S at*
 generalize (hdsL 3 (P++X++Y)).map hdV=H3 at*
 generalize (hdsL 3 (P++Y++X)).map hdV=H4 at*
 generalize (hdsL 3 (P++X)).map hdV=H1 at*
 generalize (hdsL 3 (P++Y)).map hdV=H2 at*
 generalize mpL (P++X++Y)=M3 at*
 generalize mpL (P++Y++X)=M4 at*
 generalize mpL (P++X)=MX at*
 generalize mpL (P++Y)=MY at*
 generalize zs (cnts 3 (P++X++Y))=Z3 at*
 generalize zs (cnts 3 (P++Y++X))=Z4 at*
 generalize zs (cnts 3 (P++X))=ZX at*
 generalize zs (cnts 3 (P++Y))=ZY at*
 generalize (P++X++Y).map dQ=R3 at*
 generalize (P++X).map dQ=R1 at*
 generalize (P++Y).map dQ=R2 at*
 generalize P.map dQ=R0 at*
 generalize X.map dQ=SX at*
 generalize Y.map dQ=SY at*
 generalize X.length=x at*
 generalize Y.length=y at*
 generalize P.length=p at*
 exact fi [.lend _ _ _ _ [] f1,.lend _ _ _ _ [] f2,pnA 114 5,nf,pnA 117 8,nf,.lend _ _ _ _ [3,4,5] d1,.lend _ _ _ _ [6,7,8] q1,.lend _ _ _ _ [6,7,8] d2,.lend _ _ _ _ [3,4,5] q2,.lend _ _ _ _ [3,4,5] t1,.lend _ _ _ _ [6,7,8] t2,nf,nf,nf,nf,wq 167 ((R2.length:Int) - (R0.length:Int)) (y:Int) ⟨w1,by omega⟩,na n1,wq 178 ((R1.length:Int) - (R0.length:Int)) (x:Int) ⟨w2,by omega⟩,na n2,.ext (some 184) _ _ _ _ _ a1,.eqv 189 _ _ eP,.slc R2 p R2.length 35 SY sl_ w3 zz,.ext (some 191) _ _ _ _ _ a2,.lend _ _ _ _ [3,4,5] d3,.lend _ _ _ _ [6,7,8] q3,.lend _ _ _ _ [6,7,8] d4,.lend _ _ _ _ [3,4,5] q4,.lend _ _ _ _ [3,4,5] c1,.lend _ _ _ _ [6,7,8] c2,cl sm,yt,.lend _ _ _ _ [3,4,5] c1,cl so,cl sm,yt,.lend _ _ _ _ [3,4,5] g1,.lend _ _ _ _ [6,7,8] g2,cl sh,yt,yt,yt,yt,yt,cl e_lives40] (by kernel_rfl) (by kernel_rfl)
/-- sherdref01.Take. -/
theorem zs_takeN (l:List Int) (k:Nat):(zs l).take k=zs (l.take k):=by unfold zs;rw[List.map_take]
noncomputable abbrev fTkN:Func:=fnOf PP 17
theorem e_takeN (l:List Int) (k:Nat) (hk:k≤1000000):Pure PP 17 [zl l,ni k] (.v (zl (l.take k))):=by
 have hl:(zs l).length=l.length:=List.length_map ..
 have hs:((zs l).take (min l.length k)).drop 0=zs (l.take k):=by
  rw[List.drop_zero,zs_takeN]
  congr 1
  rcases Nat.le_total l.length k with h|h
  · rw[Nat.min_eq_left h,List.take_of_length_le (Nat.le_refl _),List.take_of_length_le h]
  · rw[Nat.min_eq_right h]
 have hlen:(l.take k).length≤k:=by rw[List.length_take];omega
 have e9:ni ((zs l).length:Int)=ni (l.length:Int):=by rw[hl]
 let q:F_:= .eqv 11 (ni (if(k:Int)<(l.length:Int)then(k:Int)else(l.length:Int))) (ni ((min l.length k:Nat):Int)) (by
  congr 1
  split<;>omega)
 have z1:∀ m:List Int,∀ cs∈zs m,cs.length=1∧cs.all one=true:=fun m cs h=>by
  obtain⟨x,_,rfl⟩:=List.mem_map.1 h
  exact⟨rfl,rfl⟩
 have hz:∀ cs∈zs l,cs.length=1:=fun cs h=>(z1 l cs h).1
 refine Pure.ro (l:=zs (l.take k)) (T:= 3) (z:=1) ?_
 refine pf (by kernel_rfl) (.to mo_ [.ow 5 (.rw 3 1 [])] [0,1,5] [0] 1 [] (td':=rg fTkN 2) (σ':=at_ fTkN [(0,zl l),(1,ni k),(5,.ow 0)] [.rw 3 1 []]) ?_ (by kernel_rfl))
 by_cases h:l.take k=[]
 · rw[h]at hs⊢
   exact fi [.eqv 9 _ _ e9,q,.slc (zs l) 0 (min l.length k) 1 [] hs (by rw[hl];omega) hz,.ape [] rfl] (by kernel_rfl) (by kernel_rfl)
 · exact fi [.eqv 9 _ _ e9,q,.slc (zs l) 0 (min l.length k) 1 (zs (l.take k)) hs (by rw[hl];omega) hz,.aps [] (zs (l.take k)) (zs (l.take k)) 1000000 1 rfl (by rw[show(zs (l.take k)).length=_ from List.length_map ..];exact List.length_pos_iff.2 h) (by rw[show(zs (l.take k)).length=_ from List.length_map ..];omega) (z1 _)] (by kernel_rfl) (by kernel_rfl)
/-- **ArchiveMerges.** -/
theorem l_merges40 (hl:∀ x∈l,W.Is64 x) (hm:∀ x∈m,W.Is64 x) (ho:∀ x∈o,W.Is64 x):Pure PP 4 [zl l,zl m,zl o] (bo true):=by
 refine .len 1 (l:=zs m) (by kernel_rfl) rfl fun hml=> ?_
 refine .len 2 (l:=zs o) (by kernel_rfl) rfl fun hol=> ?_
 rw[show(zs m).length=m.length from List.length_map ..]at hml
 rw[show(zs o).length=o.length from List.length_map ..]at hol
 unfold maxLen at hml hol
 have h12:∀ x∈l.take 12,W.Is64 x:=fun x hx=>hl x (List.mem_of_mem_take hx)
 have tk:=e_takeN l 12 (by decide)
 have gr:=e_grown (n:=3) (by omega) h12
 obtain⟨ha,hln,ht,_⟩:=grw_ok (n:=3) (by omega) (l.take 12) (numA (l.take 12)) (by unfold numA;omega)
 have n10:numA (l.take 12)≤10:=by unfold numA;omega
 generalize numA (l.take 12)=k at*
 generalize grw 3 (l.take 12) k=P at*
 have s0:∀ b,Sid P [] b 10:=fun b=>⟨by rw[List.append_nil];exact ha,fun q hq=>(by cases hq),fun q hq=>by rw[List.append_nil]at hq;have:=ht q hq;omega⟩
 have nx:=mg_1 (o:=o) hm (by omega) (P:=P) (by omega) (s0 0) fun X hx hX=>mg_2 ho (by omega) (by omega) hx hX (s0 1) fun Y hy hY=>mg_3 ⟨hX.ar,hY.ar,hX.by_,hY.by_,by decide,by omega⟩
 unfold mg1 at nx
 rw[List.append_nil]at nx
 unfold aR slQ at*
 generalize P.map dQ=R at*
 exact pf (by kernel_rfl) (.to mo_ [] [1,2,7,8,9,10] [0,1,2] 3 [cl tk,cl gr] nx (by kernel_rfl))
end
end Go.Proofs.YtfdfbenejkmnlaaGreatDoor.E.Ca
