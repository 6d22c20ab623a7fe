/-
 CLAIMS: Valid, by the engine (printed by gen/caf.py).
-/
import Derived.Test.YtfdfbenejkmnlaaGreatDoorCaE
namespace Go.Proofs.YtfdfbenejkmnlaaGreatDoor.E.Ca
open Go.RowKit
set_option linter.unusedVariables false
set_option linter.unusedSimpArgs false
section
variable {c:CM} {k:Nat} {p:Int×Int} {rf:List (Int×Int)} {b s t kd w:Int} {ft:FM}
theorem ord_ge (p q:Int×Int):decide (ordN p q≥0)= !lessN p q:=by
 rw[←ord_neg]
 by_cases h:ordN p q<0
 · rw[decide_eq_false (by omega),decide_eq_true h];rfl
 · rw[decide_eq_true (by omega),decide_eq_false h];rfl
/-- Is the i-th reference wrong? -/
def badAt (p:Int×Int) (rf:List (Int×Int)) (i:Nat):Bool:= !possB (rf.getD i (0,0))||decide (rf.getD i (0,0)=p)||(decide ((i:Int)>0)&&decide (ordN (rf.getD (i - 1) (0,0)) (rf.getD i (0,0))≥0))
def badAt6 (p:Int×Int) (rf:List (Int×Int)) (i:Nat):Bool:= !possB (rf.getD i (0,0))||((rf.getD i (0,0)).1==p.1&&(rf.getD i (0,0)).2==p.2)||(decide ((i:Int)>0)&& !lessN (rf.getD (i - 1) (0,0)) (rf.getD i (0,0)))
theorem bad6 (p:Int×Int) (rf:List (Int×Int)) (i:Nat):badAt6 p rf i=badAt p rf i:=by
 unfold badAt6 badAt
 rw[ord_ge]
 congr 2
 rw[Bool.eq_iff_iff]
 simp[Prod.ext_iff]
def refersB (p:Int×Int) (rf:List (Int×Int)):Bool:= !(List.range rf.length).any (badAt p rf)
theorem refers_no {i:Nat} (hi:i<rf.length) (h:badAt p rf i=true):refersB p rf=false:=by
 unfold refersB
 rw[List.any_eq_true.2 ⟨i,List.mem_range.2 hi,h⟩];rfl
theorem refers_yes {n:Nat} (hn:¬n<rf.length) (h:∀ t,t<n→badAt p rf t=false):refersB p rf=true:=by
 unfold refersB
 rw[List.any_eq_false.2 fun t ht=>by simp[h t (by have:=List.mem_range.1 ht;omega)]];rfl
theorem no_more {i:Nat} (h:∀ t,t<i→badAt p rf t=false) (hb:badAt p rf i=false):∀ t,t<i+1→badAt p rf t=false:=fun t ht=>by
 by_cases e:t=i
 · subst e;exact hb
 · exact h t (by omega)
theorem el_n {i:Nat} (h:i<rf.length):(rfs rf)[i]? =some (nm (rf.getD i (0,0))):=sel_map (f:=nm) (by rw[List.getD_eq_getElem?_getD,List.getElem?_eq_getElem h];rfl)
noncomputable abbrev frf:Func:=fnOf PP 47
theorem e_refers (c:CM):Pure PP 47 [.ag (dC c)] (bo (refersB c.nm c.refs)):=by
 refine .lenA 0 4 (l:=rfs c.refs) (by kernel_rfl) rfl rfl fun hm=> ?_
 rw[rfs,List.length_map]at hm
 unfold maxLen at hm
 let X:Nat→St:=fun i=>at_ frf [(1,.lp 0 0),(6,.sl (rfs c.refs)),(7,ni ((rfs c.refs).length:Int)),(8,ni i)] [.bx 42 (dC c)]
 refine pf (by kernel_rfl) (.to mo_ [] [1,6,7,8] [0] 1 [] (td':=lp frf 0) (σ':=X 0) ?_ (by kernel_rfl))
 refine Gd.loop X (fun i=>i≤c.refs.length∧∀ t,t<i→badAt c.nm c.refs t=false) (fun i=>c.refs.length - i) ?_ 0 ⟨Nat.zero_le _,fun t h=>absurd h (Nat.not_lt_zero t)⟩
 intro i ⟨hi,hI⟩ ih
 by_cases h:i<c.refs.length
 · have hlt:decide ((i:Int)<((rfs c.refs).length:Int))=true:=decide_eq_true (by rw[rfs,List.length_map];omega)
   have e1:=el_n h
   have e2:=el_n (rf:=c.refs) (i:=i - 1) (by omega)
   have next:badAt c.nm c.refs i=false→Gd PP 47 (bo (refersB c.nm c.refs)) (lp frf 0) (X (i+1)):=fun hb=>ih (i+1) ⟨h,no_more hI hb⟩ (by omega)
   have stop:badAt c.nm c.refs i=true→refersB c.nm c.refs=false:=refers_no h
   generalize hA:c.refs.getD i (0,0)=a at e1
   generalize hP:c.refs.getD (i - 1) (0,0)=z at e2
   have hbad:badAt c.nm c.refs i=(!possB a||decide (a=c.nm)||(decide ((i:Int)>0)&&decide (ordN z a≥0))):=by unfold badAt;rw[hA,hP]
   cases h1:(!(possB a):Bool)with
   |true=>
     rw[stop (by simp only[hbad,h1,Bool.and_true,Bool.true_and,Bool.and_false,Bool.false_and,Bool.or_true,Bool.true_or,Bool.or_false,Bool.false_or,Bool.not_true,Bool.not_false,Bool.false_eq_true,if_true,if_false,reduceIte])]
     exact fi [ye hlt,.sel _ _ _ e1,cl (e_poss a),ye (t:= !(possB a)) h1,yt,yt] (by kernel_rfl) (by kernel_rfl)
   | false =>
     cases h2:(decide (a=c.nm):Bool)with
     |true=>
       rw[stop (by simp only[hbad,h1,h2,Bool.and_true,Bool.true_and,Bool.and_false,Bool.false_and,Bool.or_true,Bool.true_or,Bool.or_false,Bool.false_or,Bool.not_true,Bool.not_false,Bool.false_eq_true,if_true,if_false,reduceIte])]
       exact fi [ye hlt,.sel _ _ _ e1,cl (e_poss a),na (t:= !(possB a)) h1,cl (e_name c),fEq a c.nm,ye (t:=decide (a=c.nm)) h2,yt] (by kernel_rfl) (by kernel_rfl)
     |false=>
       cases h3:(decide ((i:Int)>0):Bool)with
       |true=>
         cases h4:(decide (ordN z a≥0):Bool)with
         |true=>
           rw[stop (by simp only[hbad,h1,h2,h3,h4,Bool.and_true,Bool.true_and,Bool.and_false,Bool.false_and,Bool.or_true,Bool.true_or,Bool.or_false,Bool.false_or,Bool.not_true,Bool.not_false,Bool.false_eq_true,if_true,if_false,reduceIte])]
           exact fi [ye hlt,.sel _ _ _ e1,cl (e_poss a),na (t:= !(possB a)) h1,cl (e_name c),fEq a c.nm,na (t:=decide (a=c.nm)) h2,ye (t:=decide ((i:Int)>0)) h3,wq 29 ((i:Int) - 1) ((i - 1:Nat):Int) (by simp at h3;omega),.sel _ _ _ e2,cl (e_order z a),ye (t:=decide (ordN z a≥0)) h4] (by kernel_rfl) (by kernel_rfl)
         |false=>
           exact .to mo_ [] [1,6,7,8] [0] 1 [ye hlt,.sel _ _ _ e1,cl (e_poss a),na (t:= !(possB a)) h1,cl (e_name c),fEq a c.nm,na (t:=decide (a=c.nm)) h2,ye (t:=decide ((i:Int)>0)) h3,wq 29 ((i:Int) - 1) ((i - 1:Nat):Int) (by simp at h3;omega),.sel _ _ _ e2,cl (e_order z a),na (t:=decide (ordN z a≥0)) h4,inc 37 i (by omega)] (next (by simp only[hbad,h1,h2,h3,h4,Bool.and_true,Bool.true_and,Bool.and_false,Bool.false_and,Bool.or_true,Bool.true_or,Bool.or_false,Bool.false_or,Bool.not_true,Bool.not_false,Bool.false_eq_true,if_true,if_false,reduceIte])) (by kernel_rfl)
       |false=>
         exact .to mo_ [] [1,6,7,8] [0] 1 [ye hlt,.sel _ _ _ e1,cl (e_poss a),na (t:= !(possB a)) h1,cl (e_name c),fEq a c.nm,na (t:=decide (a=c.nm)) h2,na (t:=decide ((i:Int)>0)) h3,nf,inc 37 i (by omega)] (next (by simp only[hbad,h1,h2,h3,Bool.and_true,Bool.true_and,Bool.and_false,Bool.false_and,Bool.or_true,Bool.true_or,Bool.or_false,Bool.false_or,Bool.not_true,Bool.not_false,Bool.false_eq_true,if_true,if_false,reduceIte])) (by kernel_rfl)
 · rw[refers_yes h hI]
   exact fi [na (t:=decide ((i:Int)<((rfs c.refs).length:Int))) (decide_eq_false (by rw[rfs,List.length_map];omega))] (by kernel_rfl) (by kernel_rfl)
/-- What a claim's kind asks for; is something wrong? -/
def bodyP (rf:List (Int×Int)) (w:Int) (fb:Bool) (least most:Int) (weight:Bool):Bool:=(decide (((rfs rf).length:Int)<least)||decide (((rfs rf).length:Int)>most)|| !fb)||(weight&&(decide (w<1)||decide (w>1024))||(!weight&&(w != 0)))
def headB (c:CM):Bool:= !possB c.nm||decide (c.tick<0)||decide (c.tick>1048576)||decide (c.kind<0)||decide (c.kind≥4)|| !refersB c.nm c.refs
def okI (b:Bool):Int:=match b with|true=>1|false=>0
noncomputable def validI (c:CM):Int:=match decide (((rfs c.refs).length:Int)>16)with
 |true=>4
 |false=>match headB c with
   |true=>1
   |false=>match c.kind with
     |0=>okI (bodyP c.refs c.w (fitsB c.fit false) 0 0 true)
     |1=>okI (bodyP c.refs c.w (fitsB c.fit true) 1 16 false)
     |2=>okI (bodyP c.refs c.w (fitsB c.fit false) 2 16 false)
     |_=>okI (bodyP c.refs c.w (fitsB c.fit false) 1 16 false)
theorem v_long (h:decide (((rfs c.refs).length:Int)>16)=true):validI c=4:=by unfold validI;rw[h]
theorem v_head (h:decide (((rfs c.refs).length:Int)>16)=false) (g:headB c=true):validI c=1:=by unfold validI;rw[h,g]
theorem v_0 (h:decide (((rfs rf).length:Int)>16)=false) (g:headB ⟨b,s,t,0,rf,ft,w⟩=false):validI ⟨b,s,t,0,rf,ft,w⟩=okI (bodyP rf w (fitsB ft false) 0 0 true):=by have e:decide (((rfs (CM.mk b s t 0 rf ft w).refs).length:Int)>16)=false:=h;unfold validI;rw[e,g];try rfl
theorem v_1 (h:decide (((rfs rf).length:Int)>16)=false) (g:headB ⟨b,s,t,1,rf,ft,w⟩=false):validI ⟨b,s,t,1,rf,ft,w⟩=okI (bodyP rf w (fitsB ft true) 1 16 false):=by have e:decide (((rfs (CM.mk b s t 1 rf ft w).refs).length:Int)>16)=false:=h;unfold validI;rw[e,g];try rfl
theorem v_2 (h:decide (((rfs rf).length:Int)>16)=false) (g:headB ⟨b,s,t,2,rf,ft,w⟩=false):validI ⟨b,s,t,2,rf,ft,w⟩=okI (bodyP rf w (fitsB ft false) 2 16 false):=by have e:decide (((rfs (CM.mk b s t 2 rf ft w).refs).length:Int)>16)=false:=h;unfold validI;rw[e,g];try rfl
theorem v_3 (h:decide (((rfs rf).length:Int)>16)=false) (g:headB ⟨b,s,t,3,rf,ft,w⟩=false):validI ⟨b,s,t,3,rf,ft,w⟩=okI (bodyP rf w (fitsB ft false) 1 16 false):=by have e:decide (((rfs (CM.mk b s t 3 rf ft w).refs).length:Int)>16)=false:=h;unfold validI;rw[e,g];try rfl
theorem e_cvalid (hb : FBits k c.fit) (hk : 1 ≤ k ∧ k ≤ 100000) : Pure PP 14 [.ag (dC c)] (ni (validI c)) := by
 have hp:=e_poss c.nm
 have hr:=e_refers c
 have hn:=e_name c
 have hf:=e_fits hb hk
 cases h0:decide (((rfs c.refs).length:Int)>16)with
 |true=>
  rw[v_long h0]
  exact tr [ye (t:=decide (((rfs c.refs).length:Int)>16)) h0] (by kernel_rfl)
 | false =>
  obtain⟨b,s,t,kd,rf,ft,w⟩:=c
  by_cases hkd:kd=0∨kd=1∨kd=2∨kd=3
  · rcases hkd with rfl | rfl | rfl | rfl
    · cases h5 : (!(possB (b, s)) : Bool) with
      |true=>
        rw[v_head h0 (by simp only[headB,CM.nm,h5,Bool.and_true,Bool.true_and,Bool.and_false,Bool.false_and,Bool.or_true,Bool.true_or,Bool.or_false,Bool.false_or,Bool.not_true,Bool.not_false,Bool.false_eq_true,if_true,if_false,reduceIte])]
        exact tr [na (t:=decide (((rfs rf).length:Int)>16)) h0,cl hn,cl hp,ye (t:= !(possB (b,s))) h5,yt,yt,yt,yt,yt] (by kernel_rfl)
      | false =>
        cases h6:(decide (t<0):Bool)with
        |true=>
          rw[v_head h0 (by simp only[headB,CM.nm,h5,h6,Bool.and_true,Bool.true_and,Bool.and_false,Bool.false_and,Bool.or_true,Bool.true_or,Bool.or_false,Bool.false_or,Bool.not_true,Bool.not_false,Bool.false_eq_true,if_true,if_false,reduceIte])]
          exact tr [na (t:=decide (((rfs rf).length:Int)>16)) h0,cl hn,cl hp,na (t:= !(possB (b,s))) h5,ye (t:=decide (t<0)) h6,yt,yt,yt,yt] (by kernel_rfl)
        | false =>
          cases h7:(decide (t>1048576):Bool)with
          |true=>
            rw[v_head h0 (by simp only[headB,CM.nm,h5,h6,h7,Bool.and_true,Bool.true_and,Bool.and_false,Bool.false_and,Bool.or_true,Bool.true_or,Bool.or_false,Bool.false_or,Bool.not_true,Bool.not_false,Bool.false_eq_true,if_true,if_false,reduceIte])]
            exact tr [na (t:=decide (((rfs rf).length:Int)>16)) h0,cl hn,cl hp,na (t:= !(possB (b,s))) h5,na (t:=decide (t<0)) h6,ye (t:=decide (t>1048576)) h7,yt,yt,yt] (by kernel_rfl)
          | false =>
            cases h8:(!(refersB (b,s) rf):Bool)with
            |true=>
              rw[v_head h0 (by simp only[headB,CM.nm,h5,h6,h7,h8,Bool.and_true,Bool.true_and,Bool.and_false,Bool.false_and,Bool.or_true,Bool.true_or,Bool.or_false,Bool.false_or,Bool.not_true,Bool.not_false,Bool.false_eq_true,if_true,if_false,reduceIte])]
              exact tr [na (t:=decide (((rfs rf).length:Int)>16)) h0,cl hn,cl hp,na (t:= !(possB (b,s))) h5,na (t:=decide (t<0)) h6,na (t:=decide (t>1048576)) h7,nf,nf,cl hr,ye (t:= !(refersB (b,s) rf)) h8] (by kernel_rfl)
            | false =>
              have hV:=v_0 (b:=b) (s:=s) (t:=t) (ft:=ft) (w:=w) h0 (by simp only[headB,CM.nm,h5,h6,h7,h8,Bool.and_true,Bool.true_and,Bool.and_false,Bool.false_and,Bool.or_true,Bool.true_or,Bool.or_false,Bool.false_or,Bool.not_true,Bool.not_false,Bool.false_eq_true,if_true,if_false,reduceIte];rfl)
              cases h9:(decide (((rfs rf).length:Int)<0):Bool)with
              |true=>
                rw[hV,show okI (bodyP rf w (fitsB ft false) 0 0 true)=1 from by simp only[bodyP,h9,Bool.and_true,Bool.true_and,Bool.and_false,Bool.false_and,Bool.or_true,Bool.true_or,Bool.or_false,Bool.false_or,Bool.not_true,Bool.not_false,Bool.false_eq_true,if_true,if_false,reduceIte];rfl]
                exact tr [na (t:=decide (((rfs rf).length:Int)>16)) h0,cl hn,cl hp,na (t:= !(possB (b,s))) h5,na (t:=decide (t<0)) h6,na (t:=decide (t>1048576)) h7,nf,nf,cl hr,na (t:= !(refersB (b,s) rf)) h8,ye (t:=decide (((rfs rf).length:Int)<0)) h9,yt,yt] (by kernel_rfl)
              | false =>
                cases h10:(decide (((rfs rf).length:Int)>0):Bool)with
                |true=>
                  rw[hV,show okI (bodyP rf w (fitsB ft false) 0 0 true)=1 from by simp only[bodyP,h9,h10,Bool.and_true,Bool.true_and,Bool.and_false,Bool.false_and,Bool.or_true,Bool.true_or,Bool.or_false,Bool.false_or,Bool.not_true,Bool.not_false,Bool.false_eq_true,if_true,if_false,reduceIte];rfl]
                  exact tr [na (t:=decide (((rfs rf).length:Int)>16)) h0,cl hn,cl hp,na (t:= !(possB (b,s))) h5,na (t:=decide (t<0)) h6,na (t:=decide (t>1048576)) h7,nf,nf,cl hr,na (t:= !(refersB (b,s) rf)) h8,na (t:=decide (((rfs rf).length:Int)<0)) h9,ye (t:=decide (((rfs rf).length:Int)>0)) h10,yt] (by kernel_rfl)
                | false =>
                  cases h11:(!(fitsB ft false):Bool)with
                  |true=>
                    rw[hV,show okI (bodyP rf w (fitsB ft false) 0 0 true)=1 from by simp only[bodyP,h9,h10,h11,Bool.and_true,Bool.true_and,Bool.and_false,Bool.false_and,Bool.or_true,Bool.true_or,Bool.or_false,Bool.false_or,Bool.not_true,Bool.not_false,Bool.false_eq_true,if_true,if_false,reduceIte];rfl]
                    exact tr [na (t:=decide (((rfs rf).length:Int)>16)) h0,cl hn,cl hp,na (t:= !(possB (b,s))) h5,na (t:=decide (t<0)) h6,na (t:=decide (t>1048576)) h7,nf,nf,cl hr,na (t:= !(refersB (b,s) rf)) h8,na (t:=decide (((rfs rf).length:Int)<0)) h9,na (t:=decide (((rfs rf).length:Int)>0)) h10,cl (hf false),ye (t:= !(fitsB ft false)) h11] (by kernel_rfl)
                  |false=>
                    cases h12:(decide (w<1):Bool)with
                    |true=>
                      rw[hV,show okI (bodyP rf w (fitsB ft false) 0 0 true)=1 from by simp only[bodyP,h9,h10,h11,h12,Bool.and_true,Bool.true_and,Bool.and_false,Bool.false_and,Bool.or_true,Bool.true_or,Bool.or_false,Bool.false_or,Bool.not_true,Bool.not_false,Bool.false_eq_true,if_true,if_false,reduceIte];rfl]
                      exact tr [na (t:=decide (((rfs rf).length:Int)>16)) h0,cl hn,cl hp,na (t:= !(possB (b,s))) h5,na (t:=decide (t<0)) h6,na (t:=decide (t>1048576)) h7,nf,nf,cl hr,na (t:= !(refersB (b,s) rf)) h8,na (t:=decide (((rfs rf).length:Int)<0)) h9,na (t:=decide (((rfs rf).length:Int)>0)) h10,cl (hf false),na (t:= !(fitsB ft false)) h11,yt,ye (t:=decide (w<1)) h12,yt,yt] (by kernel_rfl)
                    |false=>
                      cases h13:(decide (w>1024):Bool)with
                      |true=>
                        rw[hV,show okI (bodyP rf w (fitsB ft false) 0 0 true)=1 from by simp only[bodyP,h9,h10,h11,h12,h13,Bool.and_true,Bool.true_and,Bool.and_false,Bool.false_and,Bool.or_true,Bool.true_or,Bool.or_false,Bool.false_or,Bool.not_true,Bool.not_false,Bool.false_eq_true,if_true,if_false,reduceIte];rfl]
                        exact tr [na (t:=decide (((rfs rf).length:Int)>16)) h0,cl hn,cl hp,na (t:= !(possB (b,s))) h5,na (t:=decide (t<0)) h6,na (t:=decide (t>1048576)) h7,nf,nf,cl hr,na (t:= !(refersB (b,s) rf)) h8,na (t:=decide (((rfs rf).length:Int)<0)) h9,na (t:=decide (((rfs rf).length:Int)>0)) h10,cl (hf false),na (t:= !(fitsB ft false)) h11,yt,na (t:=decide (w<1)) h12,ye (t:=decide (w>1024)) h13,yt] (by kernel_rfl)
                      |false=>
                        rw[hV,show okI (bodyP rf w (fitsB ft false) 0 0 true)=0 from by simp only[bodyP,h9,h10,h11,h12,h13,Bool.and_true,Bool.true_and,Bool.and_false,Bool.false_and,Bool.or_true,Bool.true_or,Bool.or_false,Bool.false_or,Bool.not_true,Bool.not_false,Bool.false_eq_true,if_true,if_false,reduceIte];rfl]
                        exact tr [na (t:=decide (((rfs rf).length:Int)>16)) h0,cl hn,cl hp,na (t:= !(possB (b,s))) h5,na (t:=decide (t<0)) h6,na (t:=decide (t>1048576)) h7,nf,nf,cl hr,na (t:= !(refersB (b,s) rf)) h8,na (t:=decide (((rfs rf).length:Int)<0)) h9,na (t:=decide (((rfs rf).length:Int)>0)) h10,cl (hf false),na (t:= !(fitsB ft false)) h11,yt,na (t:=decide (w<1)) h12,na (t:=decide (w>1024)) h13,nf,nf] (by kernel_rfl)
    · cases h14 : (!(possB (b, s)) : Bool) with
      |true=>
        rw[v_head h0 (by simp only[headB,CM.nm,h14,Bool.and_true,Bool.true_and,Bool.and_false,Bool.false_and,Bool.or_true,Bool.true_or,Bool.or_false,Bool.false_or,Bool.not_true,Bool.not_false,Bool.false_eq_true,if_true,if_false,reduceIte])]
        exact tr [na (t:=decide (((rfs rf).length:Int)>16)) h0,cl hn,cl hp,ye (t:= !(possB (b,s))) h14,yt,yt,yt,yt,yt] (by kernel_rfl)
      | false =>
        cases h15:(decide (t<0):Bool)with
        |true=>
          rw[v_head h0 (by simp only[headB,CM.nm,h14,h15,Bool.and_true,Bool.true_and,Bool.and_false,Bool.false_and,Bool.or_true,Bool.true_or,Bool.or_false,Bool.false_or,Bool.not_true,Bool.not_false,Bool.false_eq_true,if_true,if_false,reduceIte])]
          exact tr [na (t:=decide (((rfs rf).length:Int)>16)) h0,cl hn,cl hp,na (t:= !(possB (b,s))) h14,ye (t:=decide (t<0)) h15,yt,yt,yt,yt] (by kernel_rfl)
        | false =>
          cases h16:(decide (t>1048576):Bool)with
          |true=>
            rw[v_head h0 (by simp only[headB,CM.nm,h14,h15,h16,Bool.and_true,Bool.true_and,Bool.and_false,Bool.false_and,Bool.or_true,Bool.true_or,Bool.or_false,Bool.false_or,Bool.not_true,Bool.not_false,Bool.false_eq_true,if_true,if_false,reduceIte])]
            exact tr [na (t:=decide (((rfs rf).length:Int)>16)) h0,cl hn,cl hp,na (t:= !(possB (b,s))) h14,na (t:=decide (t<0)) h15,ye (t:=decide (t>1048576)) h16,yt,yt,yt] (by kernel_rfl)
          | false =>
            cases h17:(!(refersB (b,s) rf):Bool)with
            |true=>
              rw[v_head h0 (by simp only[headB,CM.nm,h14,h15,h16,h17,Bool.and_true,Bool.true_and,Bool.and_false,Bool.false_and,Bool.or_true,Bool.true_or,Bool.or_false,Bool.false_or,Bool.not_true,Bool.not_false,Bool.false_eq_true,if_true,if_false,reduceIte])]
              exact tr [na (t:=decide (((rfs rf).length:Int)>16)) h0,cl hn,cl hp,na (t:= !(possB (b,s))) h14,na (t:=decide (t<0)) h15,na (t:=decide (t>1048576)) h16,nf,nf,cl hr,ye (t:= !(refersB (b,s) rf)) h17] (by kernel_rfl)
            | false =>
              have hV:=v_1 (b:=b) (s:=s) (t:=t) (ft:=ft) (w:=w) h0 (by simp only[headB,CM.nm,h14,h15,h16,h17,Bool.and_true,Bool.true_and,Bool.and_false,Bool.false_and,Bool.or_true,Bool.true_or,Bool.or_false,Bool.false_or,Bool.not_true,Bool.not_false,Bool.false_eq_true,if_true,if_false,reduceIte];rfl)
              cases h18:(decide (((rfs rf).length:Int)<1):Bool)with
              |true=>
                rw[hV,show okI (bodyP rf w (fitsB ft true) 1 16 false)=1 from by simp only[bodyP,h18,Bool.and_true,Bool.true_and,Bool.and_false,Bool.false_and,Bool.or_true,Bool.true_or,Bool.or_false,Bool.false_or,Bool.not_true,Bool.not_false,Bool.false_eq_true,if_true,if_false,reduceIte];rfl]
                exact tr [na (t:=decide (((rfs rf).length:Int)>16)) h0,cl hn,cl hp,na (t:= !(possB (b,s))) h14,na (t:=decide (t<0)) h15,na (t:=decide (t>1048576)) h16,nf,nf,cl hr,na (t:= !(refersB (b,s) rf)) h17,ye (t:=decide (((rfs rf).length:Int)<1)) h18,yt,yt] (by kernel_rfl)
              | false =>
                cases h19:(decide (((rfs rf).length:Int)>16):Bool)with
                |true=>
                  rw[hV,show okI (bodyP rf w (fitsB ft true) 1 16 false)=1 from by simp only[bodyP,h18,h19,Bool.and_true,Bool.true_and,Bool.and_false,Bool.false_and,Bool.or_true,Bool.true_or,Bool.or_false,Bool.false_or,Bool.not_true,Bool.not_false,Bool.false_eq_true,if_true,if_false,reduceIte];rfl]
                  exact tr [na (t:=decide (((rfs rf).length:Int)>16)) h0,cl hn,cl hp,na (t:= !(possB (b,s))) h14,na (t:=decide (t<0)) h15,na (t:=decide (t>1048576)) h16,nf,nf,cl hr,na (t:= !(refersB (b,s) rf)) h17,na (t:=decide (((rfs rf).length:Int)<1)) h18,ye (t:=decide (((rfs rf).length:Int)>16)) h19,yt] (by kernel_rfl)
                |false=>
                  cases h20:(!(fitsB ft true):Bool)with
                  |true=>
                    rw[hV,show okI (bodyP rf w (fitsB ft true) 1 16 false)=1 from by simp only[bodyP,h18,h19,h20,Bool.and_true,Bool.true_and,Bool.and_false,Bool.false_and,Bool.or_true,Bool.true_or,Bool.or_false,Bool.false_or,Bool.not_true,Bool.not_false,Bool.false_eq_true,if_true,if_false,reduceIte];rfl]
                    exact tr [na (t:=decide (((rfs rf).length:Int)>16)) h0,cl hn,cl hp,na (t:= !(possB (b,s))) h14,na (t:=decide (t<0)) h15,na (t:=decide (t>1048576)) h16,nf,nf,cl hr,na (t:= !(refersB (b,s) rf)) h17,na (t:=decide (((rfs rf).length:Int)<1)) h18,na (t:=decide (((rfs rf).length:Int)>16)) h19,cl (hf true),ye (t:= !(fitsB ft true)) h20] (by kernel_rfl)
                  |false=>
                    cases h21:(w != 0:Bool)with
                    |true=>
                      rw[hV,show okI (bodyP rf w (fitsB ft true) 1 16 false)=1 from by simp only[bodyP,h18,h19,h20,h21,Bool.and_true,Bool.true_and,Bool.and_false,Bool.false_and,Bool.or_true,Bool.true_or,Bool.or_false,Bool.false_or,Bool.not_true,Bool.not_false,Bool.false_eq_true,if_true,if_false,reduceIte];rfl]
                      exact tr [na (t:=decide (((rfs rf).length:Int)>16)) h0,cl hn,cl hp,na (t:= !(possB (b,s))) h14,na (t:=decide (t<0)) h15,na (t:=decide (t>1048576)) h16,nf,nf,cl hr,na (t:= !(refersB (b,s) rf)) h17,na (t:=decide (((rfs rf).length:Int)<1)) h18,na (t:=decide (((rfs rf).length:Int)>16)) h19,cl (hf true),na (t:= !(fitsB ft true)) h20,nf,nf,yt,ye (t:=w != 0) h21] (by kernel_rfl)
                    |false=>
                      rw[hV,show okI (bodyP rf w (fitsB ft true) 1 16 false)=0 from by simp only[bodyP,h18,h19,h20,h21,Bool.and_true,Bool.true_and,Bool.and_false,Bool.false_and,Bool.or_true,Bool.true_or,Bool.or_false,Bool.false_or,Bool.not_true,Bool.not_false,Bool.false_eq_true,if_true,if_false,reduceIte];rfl]
                      exact tr [na (t:=decide (((rfs rf).length:Int)>16)) h0,cl hn,cl hp,na (t:= !(possB (b,s))) h14,na (t:=decide (t<0)) h15,na (t:=decide (t>1048576)) h16,nf,nf,cl hr,na (t:= !(refersB (b,s) rf)) h17,na (t:=decide (((rfs rf).length:Int)<1)) h18,na (t:=decide (((rfs rf).length:Int)>16)) h19,cl (hf true),na (t:= !(fitsB ft true)) h20,nf,nf,yt,na (t:=w != 0) h21] (by kernel_rfl)
    · cases h22 : (!(possB (b, s)) : Bool) with
      |true=>
        rw[v_head h0 (by simp only[headB,CM.nm,h22,Bool.and_true,Bool.true_and,Bool.and_false,Bool.false_and,Bool.or_true,Bool.true_or,Bool.or_false,Bool.false_or,Bool.not_true,Bool.not_false,Bool.false_eq_true,if_true,if_false,reduceIte])]
        exact tr [na (t:=decide (((rfs rf).length:Int)>16)) h0,cl hn,cl hp,ye (t:= !(possB (b,s))) h22,yt,yt,yt,yt,yt] (by kernel_rfl)
      | false =>
        cases h23:(decide (t<0):Bool)with
        |true=>
          rw[v_head h0 (by simp only[headB,CM.nm,h22,h23,Bool.and_true,Bool.true_and,Bool.and_false,Bool.false_and,Bool.or_true,Bool.true_or,Bool.or_false,Bool.false_or,Bool.not_true,Bool.not_false,Bool.false_eq_true,if_true,if_false,reduceIte])]
          exact tr [na (t:=decide (((rfs rf).length:Int)>16)) h0,cl hn,cl hp,na (t:= !(possB (b,s))) h22,ye (t:=decide (t<0)) h23,yt,yt,yt,yt] (by kernel_rfl)
        | false =>
          cases h24:(decide (t>1048576):Bool)with
          |true=>
            rw[v_head h0 (by simp only[headB,CM.nm,h22,h23,h24,Bool.and_true,Bool.true_and,Bool.and_false,Bool.false_and,Bool.or_true,Bool.true_or,Bool.or_false,Bool.false_or,Bool.not_true,Bool.not_false,Bool.false_eq_true,if_true,if_false,reduceIte])]
            exact tr [na (t:=decide (((rfs rf).length:Int)>16)) h0,cl hn,cl hp,na (t:= !(possB (b,s))) h22,na (t:=decide (t<0)) h23,ye (t:=decide (t>1048576)) h24,yt,yt,yt] (by kernel_rfl)
          | false =>
            cases h25:(!(refersB (b,s) rf):Bool)with
            |true=>
              rw[v_head h0 (by simp only[headB,CM.nm,h22,h23,h24,h25,Bool.and_true,Bool.true_and,Bool.and_false,Bool.false_and,Bool.or_true,Bool.true_or,Bool.or_false,Bool.false_or,Bool.not_true,Bool.not_false,Bool.false_eq_true,if_true,if_false,reduceIte])]
              exact tr [na (t:=decide (((rfs rf).length:Int)>16)) h0,cl hn,cl hp,na (t:= !(possB (b,s))) h22,na (t:=decide (t<0)) h23,na (t:=decide (t>1048576)) h24,nf,nf,cl hr,ye (t:= !(refersB (b,s) rf)) h25] (by kernel_rfl)
            | false =>
              have hV:=v_2 (b:=b) (s:=s) (t:=t) (ft:=ft) (w:=w) h0 (by simp only[headB,CM.nm,h22,h23,h24,h25,Bool.and_true,Bool.true_and,Bool.and_false,Bool.false_and,Bool.or_true,Bool.true_or,Bool.or_false,Bool.false_or,Bool.not_true,Bool.not_false,Bool.false_eq_true,if_true,if_false,reduceIte];rfl)
              cases h26:(decide (((rfs rf).length:Int)<2):Bool)with
              |true=>
                rw[hV,show okI (bodyP rf w (fitsB ft false) 2 16 false)=1 from by simp only[bodyP,h26,Bool.and_true,Bool.true_and,Bool.and_false,Bool.false_and,Bool.or_true,Bool.true_or,Bool.or_false,Bool.false_or,Bool.not_true,Bool.not_false,Bool.false_eq_true,if_true,if_false,reduceIte];rfl]
                exact tr [na (t:=decide (((rfs rf).length:Int)>16)) h0,cl hn,cl hp,na (t:= !(possB (b,s))) h22,na (t:=decide (t<0)) h23,na (t:=decide (t>1048576)) h24,nf,nf,cl hr,na (t:= !(refersB (b,s) rf)) h25,ye (t:=decide (((rfs rf).length:Int)<2)) h26,yt,yt] (by kernel_rfl)
              | false =>
                cases h27:(decide (((rfs rf).length:Int)>16):Bool)with
                |true=>
                  rw[hV,show okI (bodyP rf w (fitsB ft false) 2 16 false)=1 from by simp only[bodyP,h26,h27,Bool.and_true,Bool.true_and,Bool.and_false,Bool.false_and,Bool.or_true,Bool.true_or,Bool.or_false,Bool.false_or,Bool.not_true,Bool.not_false,Bool.false_eq_true,if_true,if_false,reduceIte];rfl]
                  exact tr [na (t:=decide (((rfs rf).length:Int)>16)) h0,cl hn,cl hp,na (t:= !(possB (b,s))) h22,na (t:=decide (t<0)) h23,na (t:=decide (t>1048576)) h24,nf,nf,cl hr,na (t:= !(refersB (b,s) rf)) h25,na (t:=decide (((rfs rf).length:Int)<2)) h26,ye (t:=decide (((rfs rf).length:Int)>16)) h27,yt] (by kernel_rfl)
                |false=>
                  cases h28:(!(fitsB ft false):Bool)with
                  |true=>
                    rw[hV,show okI (bodyP rf w (fitsB ft false) 2 16 false)=1 from by simp only[bodyP,h26,h27,h28,Bool.and_true,Bool.true_and,Bool.and_false,Bool.false_and,Bool.or_true,Bool.true_or,Bool.or_false,Bool.false_or,Bool.not_true,Bool.not_false,Bool.false_eq_true,if_true,if_false,reduceIte];rfl]
                    exact tr [na (t:=decide (((rfs rf).length:Int)>16)) h0,cl hn,cl hp,na (t:= !(possB (b,s))) h22,na (t:=decide (t<0)) h23,na (t:=decide (t>1048576)) h24,nf,nf,cl hr,na (t:= !(refersB (b,s) rf)) h25,na (t:=decide (((rfs rf).length:Int)<2)) h26,na (t:=decide (((rfs rf).length:Int)>16)) h27,cl (hf false),ye (t:= !(fitsB ft false)) h28] (by kernel_rfl)
                  |false=>
                    cases h29:(w != 0:Bool)with
                    |true=>
                      rw[hV,show okI (bodyP rf w (fitsB ft false) 2 16 false)=1 from by simp only[bodyP,h26,h27,h28,h29,Bool.and_true,Bool.true_and,Bool.and_false,Bool.false_and,Bool.or_true,Bool.true_or,Bool.or_false,Bool.false_or,Bool.not_true,Bool.not_false,Bool.false_eq_true,if_true,if_false,reduceIte];rfl]
                      exact tr [na (t:=decide (((rfs rf).length:Int)>16)) h0,cl hn,cl hp,na (t:= !(possB (b,s))) h22,na (t:=decide (t<0)) h23,na (t:=decide (t>1048576)) h24,nf,nf,cl hr,na (t:= !(refersB (b,s) rf)) h25,na (t:=decide (((rfs rf).length:Int)<2)) h26,na (t:=decide (((rfs rf).length:Int)>16)) h27,cl (hf false),na (t:= !(fitsB ft false)) h28,nf,nf,yt,ye (t:=w != 0) h29] (by kernel_rfl)
                    |false=>
                      rw[hV,show okI (bodyP rf w (fitsB ft false) 2 16 false)=0 from by simp only[bodyP,h26,h27,h28,h29,Bool.and_true,Bool.true_and,Bool.and_false,Bool.false_and,Bool.or_true,Bool.true_or,Bool.or_false,Bool.false_or,Bool.not_true,Bool.not_false,Bool.false_eq_true,if_true,if_false,reduceIte];rfl]
                      exact tr [na (t:=decide (((rfs rf).length:Int)>16)) h0,cl hn,cl hp,na (t:= !(possB (b,s))) h22,na (t:=decide (t<0)) h23,na (t:=decide (t>1048576)) h24,nf,nf,cl hr,na (t:= !(refersB (b,s) rf)) h25,na (t:=decide (((rfs rf).length:Int)<2)) h26,na (t:=decide (((rfs rf).length:Int)>16)) h27,cl (hf false),na (t:= !(fitsB ft false)) h28,nf,nf,yt,na (t:=w != 0) h29] (by kernel_rfl)
    · cases h30 : (!(possB (b, s)) : Bool) with
      |true=>
        rw[v_head h0 (by simp only[headB,CM.nm,h30,Bool.and_true,Bool.true_and,Bool.and_false,Bool.false_and,Bool.or_true,Bool.true_or,Bool.or_false,Bool.false_or,Bool.not_true,Bool.not_false,Bool.false_eq_true,if_true,if_false,reduceIte])]
        exact tr [na (t:=decide (((rfs rf).length:Int)>16)) h0,cl hn,cl hp,ye (t:= !(possB (b,s))) h30,yt,yt,yt,yt,yt] (by kernel_rfl)
      | false =>
        cases h31:(decide (t<0):Bool)with
        |true=>
          rw[v_head h0 (by simp only[headB,CM.nm,h30,h31,Bool.and_true,Bool.true_and,Bool.and_false,Bool.false_and,Bool.or_true,Bool.true_or,Bool.or_false,Bool.false_or,Bool.not_true,Bool.not_false,Bool.false_eq_true,if_true,if_false,reduceIte])]
          exact tr [na (t:=decide (((rfs rf).length:Int)>16)) h0,cl hn,cl hp,na (t:= !(possB (b,s))) h30,ye (t:=decide (t<0)) h31,yt,yt,yt,yt] (by kernel_rfl)
        | false =>
          cases h32:(decide (t>1048576):Bool)with
          |true=>
            rw[v_head h0 (by simp only[headB,CM.nm,h30,h31,h32,Bool.and_true,Bool.true_and,Bool.and_false,Bool.false_and,Bool.or_true,Bool.true_or,Bool.or_false,Bool.false_or,Bool.not_true,Bool.not_false,Bool.false_eq_true,if_true,if_false,reduceIte])]
            exact tr [na (t:=decide (((rfs rf).length:Int)>16)) h0,cl hn,cl hp,na (t:= !(possB (b,s))) h30,na (t:=decide (t<0)) h31,ye (t:=decide (t>1048576)) h32,yt,yt,yt] (by kernel_rfl)
          | false =>
            cases h33:(!(refersB (b,s) rf):Bool)with
            |true=>
              rw[v_head h0 (by simp only[headB,CM.nm,h30,h31,h32,h33,Bool.and_true,Bool.true_and,Bool.and_false,Bool.false_and,Bool.or_true,Bool.true_or,Bool.or_false,Bool.false_or,Bool.not_true,Bool.not_false,Bool.false_eq_true,if_true,if_false,reduceIte])]
              exact tr [na (t:=decide (((rfs rf).length:Int)>16)) h0,cl hn,cl hp,na (t:= !(possB (b,s))) h30,na (t:=decide (t<0)) h31,na (t:=decide (t>1048576)) h32,nf,nf,cl hr,ye (t:= !(refersB (b,s) rf)) h33] (by kernel_rfl)
            | false =>
              have hV:=v_3 (b:=b) (s:=s) (t:=t) (ft:=ft) (w:=w) h0 (by simp only[headB,CM.nm,h30,h31,h32,h33,Bool.and_true,Bool.true_and,Bool.and_false,Bool.false_and,Bool.or_true,Bool.true_or,Bool.or_false,Bool.false_or,Bool.not_true,Bool.not_false,Bool.false_eq_true,if_true,if_false,reduceIte];rfl)
              cases h34:(decide (((rfs rf).length:Int)<1):Bool)with
              |true=>
                rw[hV,show okI (bodyP rf w (fitsB ft false) 1 16 false)=1 from by simp only[bodyP,h34,Bool.and_true,Bool.true_and,Bool.and_false,Bool.false_and,Bool.or_true,Bool.true_or,Bool.or_false,Bool.false_or,Bool.not_true,Bool.not_false,Bool.false_eq_true,if_true,if_false,reduceIte];rfl]
                exact tr [na (t:=decide (((rfs rf).length:Int)>16)) h0,cl hn,cl hp,na (t:= !(possB (b,s))) h30,na (t:=decide (t<0)) h31,na (t:=decide (t>1048576)) h32,nf,nf,cl hr,na (t:= !(refersB (b,s) rf)) h33,ye (t:=decide (((rfs rf).length:Int)<1)) h34,yt,yt] (by kernel_rfl)
              | false =>
                cases h35:(decide (((rfs rf).length:Int)>16):Bool)with
                |true=>
                  rw[hV,show okI (bodyP rf w (fitsB ft false) 1 16 false)=1 from by simp only[bodyP,h34,h35,Bool.and_true,Bool.true_and,Bool.and_false,Bool.false_and,Bool.or_true,Bool.true_or,Bool.or_false,Bool.false_or,Bool.not_true,Bool.not_false,Bool.false_eq_true,if_true,if_false,reduceIte];rfl]
                  exact tr [na (t:=decide (((rfs rf).length:Int)>16)) h0,cl hn,cl hp,na (t:= !(possB (b,s))) h30,na (t:=decide (t<0)) h31,na (t:=decide (t>1048576)) h32,nf,nf,cl hr,na (t:= !(refersB (b,s) rf)) h33,na (t:=decide (((rfs rf).length:Int)<1)) h34,ye (t:=decide (((rfs rf).length:Int)>16)) h35,yt] (by kernel_rfl)
                |false=>
                  cases h36:(!(fitsB ft false):Bool)with
                  |true=>
                    rw[hV,show okI (bodyP rf w (fitsB ft false) 1 16 false)=1 from by simp only[bodyP,h34,h35,h36,Bool.and_true,Bool.true_and,Bool.and_false,Bool.false_and,Bool.or_true,Bool.true_or,Bool.or_false,Bool.false_or,Bool.not_true,Bool.not_false,Bool.false_eq_true,if_true,if_false,reduceIte];rfl]
                    exact tr [na (t:=decide (((rfs rf).length:Int)>16)) h0,cl hn,cl hp,na (t:= !(possB (b,s))) h30,na (t:=decide (t<0)) h31,na (t:=decide (t>1048576)) h32,nf,nf,cl hr,na (t:= !(refersB (b,s) rf)) h33,na (t:=decide (((rfs rf).length:Int)<1)) h34,na (t:=decide (((rfs rf).length:Int)>16)) h35,cl (hf false),ye (t:= !(fitsB ft false)) h36] (by kernel_rfl)
                  |false=>
                    cases h37:(w != 0:Bool)with
                    |true=>
                      rw[hV,show okI (bodyP rf w (fitsB ft false) 1 16 false)=1 from by simp only[bodyP,h34,h35,h36,h37,Bool.and_true,Bool.true_and,Bool.and_false,Bool.false_and,Bool.or_true,Bool.true_or,Bool.or_false,Bool.false_or,Bool.not_true,Bool.not_false,Bool.false_eq_true,if_true,if_false,reduceIte];rfl]
                      exact tr [na (t:=decide (((rfs rf).length:Int)>16)) h0,cl hn,cl hp,na (t:= !(possB (b,s))) h30,na (t:=decide (t<0)) h31,na (t:=decide (t>1048576)) h32,nf,nf,cl hr,na (t:= !(refersB (b,s) rf)) h33,na (t:=decide (((rfs rf).length:Int)<1)) h34,na (t:=decide (((rfs rf).length:Int)>16)) h35,cl (hf false),na (t:= !(fitsB ft false)) h36,nf,nf,yt,ye (t:=w != 0) h37] (by kernel_rfl)
                    |false=>
                      rw[hV,show okI (bodyP rf w (fitsB ft false) 1 16 false)=0 from by simp only[bodyP,h34,h35,h36,h37,Bool.and_true,Bool.true_and,Bool.and_false,Bool.false_and,Bool.or_true,Bool.true_or,Bool.or_false,Bool.false_or,Bool.not_true,Bool.not_false,Bool.false_eq_true,if_true,if_false,reduceIte];rfl]
                      exact tr [na (t:=decide (((rfs rf).length:Int)>16)) h0,cl hn,cl hp,na (t:= !(possB (b,s))) h30,na (t:=decide (t<0)) h31,na (t:=decide (t>1048576)) h32,nf,nf,cl hr,na (t:= !(refersB (b,s) rf)) h33,na (t:=decide (((rfs rf).length:Int)<1)) h34,na (t:=decide (((rfs rf).length:Int)>16)) h35,cl (hf false),na (t:= !(fitsB ft false)) h36,nf,nf,yt,na (t:=w != 0) h37] (by kernel_rfl)
  · cases h38 : (!(possB (b, s)) : Bool) with
    |true=>
      rw[v_head h0 (by simp only[headB,CM.nm,h38,Bool.and_true,Bool.true_and,Bool.and_false,Bool.false_and,Bool.or_true,Bool.true_or,Bool.or_false,Bool.false_or,Bool.not_true,Bool.not_false,Bool.false_eq_true,if_true,if_false,reduceIte])]
      exact tr [na (t:=decide (((rfs rf).length:Int)>16)) h0,cl hn,cl hp,ye (t:= !(possB (b,s))) h38,yt,yt,yt,yt,yt] (by kernel_rfl)
    | false =>
      cases h39:(decide (t<0):Bool)with
      |true=>
        rw[v_head h0 (by simp only[headB,CM.nm,h38,h39,Bool.and_true,Bool.true_and,Bool.and_false,Bool.false_and,Bool.or_true,Bool.true_or,Bool.or_false,Bool.false_or,Bool.not_true,Bool.not_false,Bool.false_eq_true,if_true,if_false,reduceIte])]
        exact tr [na (t:=decide (((rfs rf).length:Int)>16)) h0,cl hn,cl hp,na (t:= !(possB (b,s))) h38,ye (t:=decide (t<0)) h39,yt,yt,yt,yt] (by kernel_rfl)
      | false =>
        cases h40:(decide (t>1048576):Bool)with
        |true=>
          rw[v_head h0 (by simp only[headB,CM.nm,h38,h39,h40,Bool.and_true,Bool.true_and,Bool.and_false,Bool.false_and,Bool.or_true,Bool.true_or,Bool.or_false,Bool.false_or,Bool.not_true,Bool.not_false,Bool.false_eq_true,if_true,if_false,reduceIte])]
          exact tr [na (t:=decide (((rfs rf).length:Int)>16)) h0,cl hn,cl hp,na (t:= !(possB (b,s))) h38,na (t:=decide (t<0)) h39,ye (t:=decide (t>1048576)) h40,yt,yt,yt] (by kernel_rfl)
        | false =>
          cases h41:(decide (kd<0):Bool)with
          |true=>
            rw[v_head h0 (by simp only[headB,CM.nm,h38,h39,h40,h41,Bool.and_true,Bool.true_and,Bool.and_false,Bool.false_and,Bool.or_true,Bool.true_or,Bool.or_false,Bool.false_or,Bool.not_true,Bool.not_false,Bool.false_eq_true,if_true,if_false,reduceIte])]
            exact tr [na (t:=decide (((rfs rf).length:Int)>16)) h0,cl hn,cl hp,na (t:= !(possB (b,s))) h38,na (t:=decide (t<0)) h39,na (t:=decide (t>1048576)) h40,ye (t:=decide (kd<0)) h41,yt,yt] (by kernel_rfl)
          |false=>
            cases h42:(decide (kd≥4):Bool)with
            |true=>
              rw[v_head h0 (by simp only[headB,CM.nm,h38,h39,h40,h41,h42,Bool.and_true,Bool.true_and,Bool.and_false,Bool.false_and,Bool.or_true,Bool.true_or,Bool.or_false,Bool.false_or,Bool.not_true,Bool.not_false,Bool.false_eq_true,if_true,if_false,reduceIte])]
              exact tr [na (t:=decide (((rfs rf).length:Int)>16)) h0,cl hn,cl hp,na (t:= !(possB (b,s))) h38,na (t:=decide (t<0)) h39,na (t:=decide (t>1048576)) h40,na (t:=decide (kd<0)) h41,ye (t:=decide (kd≥4)) h42,yt] (by kernel_rfl)
            |false=>
              cases h43:(!(refersB (b,s) rf):Bool)with
              |true=>
                simp at h41 h42;omega
              |false=>
                simp at h41 h42;omega
end
end Go.Proofs.YtfdfbenejkmnlaaGreatDoor.E.Ca
