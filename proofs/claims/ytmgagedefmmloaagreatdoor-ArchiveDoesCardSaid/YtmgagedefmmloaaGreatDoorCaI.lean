/-
 CLAIMS: the names that a claim of the generator refers to, by the engine.
-/
import Derived.Test.YtmgagedefmmloaaGreatDoorCaF
namespace Go.Proofs.YtmgagedefmmloaaGreatDoor.E.Ca
open Go.RowKit
set_option linter.unusedVariables false
set_option linter.unusedSimpArgs false
section
variable {k:Nat} {rf:List (Int×Int)} {b s t kd w:Int} {ft:FM} {fb:Bool}
def r0B (rf:List (Int×Int)) (w:Int):Bool:=(((rfs rf).length:Int)==0)&&decide (w≥1)&&decide (w≤1024)
def rLB (rf:List (Int×Int)) (w L:Int):Bool:=decide (((rfs rf).length:Int)≥L)&&(w==0)
theorem body_0:bodyP rf w fb 0 0 true= !(r0B rf w&&fb):=by
 unfold bodyP r0B
 have hn:0≤((rfs rf).length:Int):=Int.natCast_nonneg _
 generalize ((rfs rf).length:Int)=n at*
 rw[Bool.eq_iff_iff]
 cases fb<;>simp<;>omega
theorem body_L {L:Int} (h:decide (((rfs rf).length:Int)>16)=false):bodyP rf w fb L 16 false= !(rLB rf w L&&fb):=by
 unfold bodyP rLB
 generalize ((rfs rf).length:Int)=n at*
 simp at h
 rw[Bool.eq_iff_iff]
 cases fb<;>simp<;>omega
noncomputable abbrev fv6:Func:=fnOf PP 98
theorem e_cvalid6 {c : CM} (hb : FBits k c.fit) (hk : 1 ≤ k ∧ k ≤ 100000) : Pure PP 98 [.ag (dC c)] (ni (validI c)) := by
 refine .lenA 0 4 (l:=rfs c.refs) (by kernel_rfl) rfl rfl fun hm=> ?_
 rw[rfs,List.length_map]at hm
 unfold maxLen at hm
 have hf:=e_fits6 hb hk
 cases h0:decide (((rfs c.refs).length:Int)>16)with
 |true=>
  rw[v_long h0]
  exact tr [ye (t:=decide (((rfs c.refs).length:Int)>16)) h0] (by kernel_rfl)
 | false =>
  obtain⟨b,s,t,kd,rf,ft,w⟩:=c
  have hm:rf.length≤9223372036854775807:=hm
  cases h1:(possB (b,s):Bool)with
  | true =>
    cases h2:(decide (t<0):Bool)with
    |true=>
      rw[v_head h0 (by simp only[headB,CM.nm,h1,h2,Bool.and_true,Bool.true_and,Bool.and_false,Bool.false_and,Bool.or_true,Bool.true_or,Bool.or_false,Bool.false_or,Bool.not_true,Bool.not_false,Bool.false_eq_true,if_true,if_false,reduceIte])]
      exact tr [na (t:=decide (((rfs rf).length:Int)>16)) h0,cl (e_poss6 (b,s)),na (t:= !(possB (b,s))) (by rw[h1];rfl),ye (t:=decide (t<0)) h2,yt,yt,yt] (by kernel_rfl)
    | false =>
      cases h3:(decide (t>1048576):Bool)with
      |true=>
        rw[v_head h0 (by simp only[headB,CM.nm,h1,h2,h3,Bool.and_true,Bool.true_and,Bool.and_false,Bool.false_and,Bool.or_true,Bool.true_or,Bool.or_false,Bool.false_or,Bool.not_true,Bool.not_false,Bool.false_eq_true,if_true,if_false,reduceIte])]
        exact tr [na (t:=decide (((rfs rf).length:Int)>16)) h0,cl (e_poss6 (b,s)),na (t:= !(possB (b,s))) (by rw[h1];rfl),na (t:=decide (t<0)) h2,ye (t:=decide (t>1048576)) h3,yt,yt] (by kernel_rfl)
      | false =>
        cases h4:(decide (kd<0):Bool)with
        |true=>
          rw[v_head h0 (by simp only[headB,CM.nm,h1,h2,h3,h4,Bool.and_true,Bool.true_and,Bool.and_false,Bool.false_and,Bool.or_true,Bool.true_or,Bool.or_false,Bool.false_or,Bool.not_true,Bool.not_false,Bool.false_eq_true,if_true,if_false,reduceIte])]
          exact tr [na (t:=decide (((rfs rf).length:Int)>16)) h0,cl (e_poss6 (b,s)),na (t:= !(possB (b,s))) (by rw[h1];rfl),na (t:=decide (t<0)) h2,na (t:=decide (t>1048576)) h3,ye (t:=decide (kd<0)) h4,yt] (by kernel_rfl)
        | false =>
          cases h5:(decide (kd>3):Bool)with
          |true=>
            rw[v_head h0 (by simp only[headB,CM.nm,h1,h2,h3,h4,show decide (kd≥4)=true from by simp at h5;simp;omega,Bool.and_true,Bool.true_and,Bool.and_false,Bool.false_and,Bool.or_true,Bool.true_or,Bool.or_false,Bool.false_or,Bool.not_true,Bool.not_false,Bool.false_eq_true,if_true,if_false,reduceIte])]
            exact tr [na (t:=decide (((rfs rf).length:Int)>16)) h0,cl (e_poss6 (b,s)),na (t:= !(possB (b,s))) (by rw[h1];rfl),na (t:=decide (t<0)) h2,na (t:=decide (t>1048576)) h3,na (t:=decide (kd<0)) h4,ye (t:=decide (kd>3)) h5] (by kernel_rfl)
          | false =>
            have hkd:kd=0∨kd=1∨kd=2∨kd=3:=by simp at h4 h5;omega
            let X:Nat→St:=fun i=>at_ fv6 [(1,.lp 0 0),(3,ni ((rfs rf).length:Int)),(4,ni i)] [.bx 40 (dC ⟨b,s,t,kd,rf,ft,w⟩)]
            refine pf (by kernel_rfl) (.to mo_ [] [1,3,4] [0] 1 [na (t:=decide (((rfs rf).length:Int)>16)) h0,cl (e_poss6 (b,s)),na (t:= !(possB (b,s))) (by rw[h1];rfl),na (t:=decide (t<0)) h2,na (t:=decide (t>1048576)) h3,na (t:=decide (kd<0)) h4,na (t:=decide (kd>3)) h5] (td':=lp fv6 0) (σ':=X 0) ?_ (by kernel_rfl))
            refine Gd.loop X (fun i=>i≤rf.length∧∀ t,t<i→badAt (b,s) rf t=false) (fun i=>rf.length - i) ?_ 0 ⟨Nat.zero_le _,fun t h=>absurd h (Nat.not_lt_zero t)⟩
            intro i ⟨hi,hI⟩ ih
            by_cases h:i<rf.length
            · have hlt:decide ((i:Int)<((rfs rf).length:Int))=true:=decide_eq_true (by rw[rfs,List.length_map];omega)
              have e1:=el_n h
              have e2:=el_n (rf:=rf) (i:=i - 1) (by omega)
              have next:badAt6 (b,s) rf i=false→Gd PP 98 (ni (validI ⟨b,s,t,kd,rf,ft,w⟩)) (lp fv6 0) (X (i+1)):=fun hb=>ih (i+1) ⟨h,no_more hI (by rw[←bad6];exact hb)⟩ (by omega)
              have stop:badAt6 (b,s) rf i=true→validI ⟨b,s,t,kd,rf,ft,w⟩=1:=fun hb=>v_head h0 (by simp only[headB,CM.nm,refers_no h (by rw[←bad6];exact hb),Bool.and_true,Bool.true_and,Bool.and_false,Bool.false_and,Bool.or_true,Bool.true_or,Bool.or_false,Bool.false_or,Bool.not_true,Bool.not_false,Bool.false_eq_true,if_true,if_false,reduceIte])
              generalize hA:rf.getD i (0,0)=a at e1
              generalize hP:rf.getD (i - 1) (0,0)=z at e2
              have hbad:badAt6 (b,s) rf i=(!possB a||(a.1==b&&a.2==s)||(decide ((i:Int)>0)&& !lessN z a)):=by unfold badAt6;rw[hA,hP]
              cases h6:(possB a:Bool)with
              | true =>
                cases h7:(a.1==b:Bool)with
                | true =>
                  cases h8:(a.2==s:Bool)with
                  |true=>
                    rw[stop (by simp only[hbad,h6,h7,h8,Bool.and_true,Bool.true_and,Bool.and_false,Bool.false_and,Bool.or_true,Bool.true_or,Bool.or_false,Bool.false_or,Bool.not_true,Bool.not_false,Bool.false_eq_true,if_true,if_false,reduceIte])]
                    exact fi [ye hlt,.sel _ _ _ e1,cl (e_poss6 a),na (t:= !(possB a)) (by rw[h6];rfl),.sel _ _ _ e1,ye (t:=a.1==b) h7,.sel _ _ _ e1,ye (t:=a.2==s) h8,yt] (by kernel_rfl) (by kernel_rfl)
                  |false=>
                    cases h9:(decide ((i:Int)>0):Bool)with
                    |true=>
                      cases h10:(lessN z a:Bool)with
                      |true=>
                        exact .to mo_ [] [1,3,4] [0] 1 [ye hlt,.sel _ _ _ e1,cl (e_poss6 a),na (t:= !(possB a)) (by rw[h6];rfl),.sel _ _ _ e1,ye (t:=a.1==b) h7,.sel _ _ _ e1,na (t:=a.2==s) h8,ye (t:=decide ((i:Int)>0)) h9,wq 79 ((i:Int) - 1) ((i - 1:Nat):Int) (by simp at h9;omega),.sel _ _ _ e2,.sel _ _ _ e1,cl (e_less6 z a),na (t:= !(lessN z a)) (by rw[h10];rfl),inc 42 i (by omega)] (next (by simp only[hbad,h6,h7,h8,h9,h10,Bool.and_true,Bool.true_and,Bool.and_false,Bool.false_and,Bool.or_true,Bool.true_or,Bool.or_false,Bool.false_or,Bool.not_true,Bool.not_false,Bool.false_eq_true,if_true,if_false,reduceIte])) (by kernel_rfl)
                      |false=>
                        rw[stop (by simp only[hbad,h6,h7,h8,h9,h10,Bool.and_true,Bool.true_and,Bool.and_false,Bool.false_and,Bool.or_true,Bool.true_or,Bool.or_false,Bool.false_or,Bool.not_true,Bool.not_false,Bool.false_eq_true,if_true,if_false,reduceIte])]
                        exact fi [ye hlt,.sel _ _ _ e1,cl (e_poss6 a),na (t:= !(possB a)) (by rw[h6];rfl),.sel _ _ _ e1,ye (t:=a.1==b) h7,.sel _ _ _ e1,na (t:=a.2==s) h8,ye (t:=decide ((i:Int)>0)) h9,wq 79 ((i:Int) - 1) ((i - 1:Nat):Int) (by simp at h9;omega),.sel _ _ _ e2,.sel _ _ _ e1,cl (e_less6 z a),ye (t:= !(lessN z a)) (by rw[h10];rfl)] (by kernel_rfl) (by kernel_rfl)
                    |false=>
                      exact .to mo_ [] [1,3,4] [0] 1 [ye hlt,.sel _ _ _ e1,cl (e_poss6 a),na (t:= !(possB a)) (by rw[h6];rfl),.sel _ _ _ e1,ye (t:=a.1==b) h7,.sel _ _ _ e1,na (t:=a.2==s) h8,na (t:=decide ((i:Int)>0)) h9,nf,inc 42 i (by omega)] (next (by simp only[hbad,h6,h7,h8,h9,Bool.and_true,Bool.true_and,Bool.and_false,Bool.false_and,Bool.or_true,Bool.true_or,Bool.or_false,Bool.false_or,Bool.not_true,Bool.not_false,Bool.false_eq_true,if_true,if_false,reduceIte])) (by kernel_rfl)
                |false=>
                  cases h11:(decide ((i:Int)>0):Bool)with
                  |true=>
                    cases h12:(lessN z a:Bool)with
                    |true=>
                      exact .to mo_ [] [1,3,4] [0] 1 [ye hlt,.sel _ _ _ e1,cl (e_poss6 a),na (t:= !(possB a)) (by rw[h6];rfl),.sel _ _ _ e1,na (t:=a.1==b) h7,nf,ye (t:=decide ((i:Int)>0)) h11,wq 79 ((i:Int) - 1) ((i - 1:Nat):Int) (by simp at h11;omega),.sel _ _ _ e2,.sel _ _ _ e1,cl (e_less6 z a),na (t:= !(lessN z a)) (by rw[h12];rfl),inc 42 i (by omega)] (next (by simp only[hbad,h6,h7,h11,h12,Bool.and_true,Bool.true_and,Bool.and_false,Bool.false_and,Bool.or_true,Bool.true_or,Bool.or_false,Bool.false_or,Bool.not_true,Bool.not_false,Bool.false_eq_true,if_true,if_false,reduceIte])) (by kernel_rfl)
                    |false=>
                      rw[stop (by simp only[hbad,h6,h7,h11,h12,Bool.and_true,Bool.true_and,Bool.and_false,Bool.false_and,Bool.or_true,Bool.true_or,Bool.or_false,Bool.false_or,Bool.not_true,Bool.not_false,Bool.false_eq_true,if_true,if_false,reduceIte])]
                      exact fi [ye hlt,.sel _ _ _ e1,cl (e_poss6 a),na (t:= !(possB a)) (by rw[h6];rfl),.sel _ _ _ e1,na (t:=a.1==b) h7,nf,ye (t:=decide ((i:Int)>0)) h11,wq 79 ((i:Int) - 1) ((i - 1:Nat):Int) (by simp at h11;omega),.sel _ _ _ e2,.sel _ _ _ e1,cl (e_less6 z a),ye (t:= !(lessN z a)) (by rw[h12];rfl)] (by kernel_rfl) (by kernel_rfl)
                  |false=>
                    exact .to mo_ [] [1,3,4] [0] 1 [ye hlt,.sel _ _ _ e1,cl (e_poss6 a),na (t:= !(possB a)) (by rw[h6];rfl),.sel _ _ _ e1,na (t:=a.1==b) h7,nf,na (t:=decide ((i:Int)>0)) h11,nf,inc 42 i (by omega)] (next (by simp only[hbad,h6,h7,h11,Bool.and_true,Bool.true_and,Bool.and_false,Bool.false_and,Bool.or_true,Bool.true_or,Bool.or_false,Bool.false_or,Bool.not_true,Bool.not_false,Bool.false_eq_true,if_true,if_false,reduceIte])) (by kernel_rfl)
              |false=>
                rw[stop (by simp only[hbad,h6,Bool.and_true,Bool.true_and,Bool.and_false,Bool.false_and,Bool.or_true,Bool.true_or,Bool.or_false,Bool.false_or,Bool.not_true,Bool.not_false,Bool.false_eq_true,if_true,if_false,reduceIte])]
                exact fi [ye hlt,.sel _ _ _ e1,cl (e_poss6 a),ye (t:= !(possB a)) (by rw[h6];rfl),yt,yt] (by kernel_rfl) (by kernel_rfl)
            · have hR := refers_yes h hI
              have hge:decide ((i:Int)<((rfs rf).length:Int))=false:=decide_eq_false (by rw[rfs,List.length_map];omega)
              rcases hkd with rfl|rfl|rfl|rfl
              · have hV := v_0 (b := b) (s := s) (t := t) (ft := ft) (w := w) h0 (by simp only [headB, CM.nm, h1, h2, h3, hR, Bool.and_true, Bool.true_and, Bool.and_false, Bool.false_and, Bool.or_true, Bool.true_or, Bool.or_false, Bool.false_or, Bool.not_true, Bool.not_false, Bool.false_eq_true, if_true, if_false, reduceIte]; rfl)
                cases h13:(((rfs rf).length:Int)==0:Bool)with
                | true =>
                  cases h14:(decide (w≥1):Bool)with
                  |true=>
                    cases h15:(decide (w≤1024):Bool)with
                    |true=>
                      cases h16:(fitsB ft false:Bool)with
                      |true=>
                        rw[hV,show okI (bodyP rf w (fitsB ft false) 0 0 true)=0 from by simp only[body_0,r0B,h13,h14,h15,h16,Bool.and_true,Bool.true_and,Bool.and_false,Bool.false_and,Bool.or_true,Bool.true_or,Bool.or_false,Bool.false_or,Bool.not_true,Bool.not_false,Bool.false_eq_true,if_true,if_false,reduceIte];rfl]
                        exact fi [na hge,yt,ye (t:=((rfs rf).length:Int)==0) h13,ye (t:=decide (w≥1)) h14,na (t:= !(decide (w≤1024))) (by rw[h15];rfl),cl (hf false),na (t:= !(fitsB ft false)) (by rw[h16];rfl)] (by kernel_rfl) (by kernel_rfl)
                      |false=>
                        rw[hV,show okI (bodyP rf w (fitsB ft false) 0 0 true)=1 from by simp only[body_0,r0B,h13,h14,h15,h16,Bool.and_true,Bool.true_and,Bool.and_false,Bool.false_and,Bool.or_true,Bool.true_or,Bool.or_false,Bool.false_or,Bool.not_true,Bool.not_false,Bool.false_eq_true,if_true,if_false,reduceIte];rfl]
                        exact fi [na hge,yt,ye (t:=((rfs rf).length:Int)==0) h13,ye (t:=decide (w≥1)) h14,na (t:= !(decide (w≤1024))) (by rw[h15];rfl),cl (hf false),ye (t:= !(fitsB ft false)) (by rw[h16];rfl)] (by kernel_rfl) (by kernel_rfl)
                    |false=>
                      rw[hV,show okI (bodyP rf w (fitsB ft false) 0 0 true)=1 from by simp only[body_0,r0B,h13,h14,h15,Bool.and_true,Bool.true_and,Bool.and_false,Bool.false_and,Bool.or_true,Bool.true_or,Bool.or_false,Bool.false_or,Bool.not_true,Bool.not_false,Bool.false_eq_true,if_true,if_false,reduceIte];rfl]
                      exact fi [na hge,yt,ye (t:=((rfs rf).length:Int)==0) h13,ye (t:=decide (w≥1)) h14,ye (t:= !(decide (w≤1024))) (by rw[h15];rfl),yt] (by kernel_rfl) (by kernel_rfl)
                  |false=>
                    rw[hV,show okI (bodyP rf w (fitsB ft false) 0 0 true)=1 from by simp only[body_0,r0B,h13,h14,Bool.and_true,Bool.true_and,Bool.and_false,Bool.false_and,Bool.or_true,Bool.true_or,Bool.or_false,Bool.false_or,Bool.not_true,Bool.not_false,Bool.false_eq_true,if_true,if_false,reduceIte];rfl]
                    exact fi [na hge,yt,ye (t:=((rfs rf).length:Int)==0) h13,na (t:=decide (w≥1)) h14,yt,yt] (by kernel_rfl) (by kernel_rfl)
                |false=>
                  rw[hV,show okI (bodyP rf w (fitsB ft false) 0 0 true)=1 from by simp only[body_0,r0B,h13,Bool.and_true,Bool.true_and,Bool.and_false,Bool.false_and,Bool.or_true,Bool.true_or,Bool.or_false,Bool.false_or,Bool.not_true,Bool.not_false,Bool.false_eq_true,if_true,if_false,reduceIte];rfl]
                  exact fi [na hge,yt,na (t:=((rfs rf).length:Int)==0) h13,nf,yt,yt] (by kernel_rfl) (by kernel_rfl)
              · have hV:=v_1 (b:=b) (s:=s) (t:=t) (ft:=ft) (w:=w) h0 (by simp only[headB,CM.nm,h1,h2,h3,hR,Bool.and_true,Bool.true_and,Bool.and_false,Bool.false_and,Bool.or_true,Bool.true_or,Bool.or_false,Bool.false_or,Bool.not_true,Bool.not_false,Bool.false_eq_true,if_true,if_false,reduceIte];rfl)
                cases h17:(decide (((rfs rf).length:Int)≥1):Bool)with
                |true=>
                  cases h18:(w==0:Bool)with
                  |true=>
                    cases h19:(fitsB ft true:Bool)with
                    |true=>
                      rw[hV,show okI (bodyP rf w (fitsB ft true) 1 16 false)=0 from by simp only[body_L h0,rLB,h17,h18,h19,Bool.and_true,Bool.true_and,Bool.and_false,Bool.false_and,Bool.or_true,Bool.true_or,Bool.or_false,Bool.false_or,Bool.not_true,Bool.not_false,Bool.false_eq_true,if_true,if_false,reduceIte];rfl]
                      exact fi [na hge,nf,yt,ye (t:=decide (((rfs rf).length:Int)≥1)) h17,na (t:= !(w==0)) (by rw[h18];rfl),cl (hf true),na (t:= !(fitsB ft true)) (by rw[h19];rfl)] (by kernel_rfl) (by kernel_rfl)
                    |false=>
                      rw[hV,show okI (bodyP rf w (fitsB ft true) 1 16 false)=1 from by simp only[body_L h0,rLB,h17,h18,h19,Bool.and_true,Bool.true_and,Bool.and_false,Bool.false_and,Bool.or_true,Bool.true_or,Bool.or_false,Bool.false_or,Bool.not_true,Bool.not_false,Bool.false_eq_true,if_true,if_false,reduceIte];rfl]
                      exact fi [na hge,nf,yt,ye (t:=decide (((rfs rf).length:Int)≥1)) h17,na (t:= !(w==0)) (by rw[h18];rfl),cl (hf true),ye (t:= !(fitsB ft true)) (by rw[h19];rfl)] (by kernel_rfl) (by kernel_rfl)
                  |false=>
                    rw[hV,show okI (bodyP rf w (fitsB ft true) 1 16 false)=1 from by simp only[body_L h0,rLB,h17,h18,Bool.and_true,Bool.true_and,Bool.and_false,Bool.false_and,Bool.or_true,Bool.true_or,Bool.or_false,Bool.false_or,Bool.not_true,Bool.not_false,Bool.false_eq_true,if_true,if_false,reduceIte];rfl]
                    exact fi [na hge,nf,yt,ye (t:=decide (((rfs rf).length:Int)≥1)) h17,ye (t:= !(w==0)) (by rw[h18];rfl),yt] (by kernel_rfl) (by kernel_rfl)
                |false=>
                  rw[hV,show okI (bodyP rf w (fitsB ft true) 1 16 false)=1 from by simp only[body_L h0,rLB,h17,Bool.and_true,Bool.true_and,Bool.and_false,Bool.false_and,Bool.or_true,Bool.true_or,Bool.or_false,Bool.false_or,Bool.not_true,Bool.not_false,Bool.false_eq_true,if_true,if_false,reduceIte];rfl]
                  exact fi [na hge,nf,yt,na (t:=decide (((rfs rf).length:Int)≥1)) h17,yt,yt] (by kernel_rfl) (by kernel_rfl)
              · have hV:=v_2 (b:=b) (s:=s) (t:=t) (ft:=ft) (w:=w) h0 (by simp only[headB,CM.nm,h1,h2,h3,hR,Bool.and_true,Bool.true_and,Bool.and_false,Bool.false_and,Bool.or_true,Bool.true_or,Bool.or_false,Bool.false_or,Bool.not_true,Bool.not_false,Bool.false_eq_true,if_true,if_false,reduceIte];rfl)
                cases h20:(decide (((rfs rf).length:Int)≥2):Bool)with
                |true=>
                  cases h21:(w==0:Bool)with
                  |true=>
                    cases h22:(fitsB ft false:Bool)with
                    |true=>
                      rw[hV,show okI (bodyP rf w (fitsB ft false) 2 16 false)=0 from by simp only[body_L h0,rLB,h20,h21,h22,Bool.and_true,Bool.true_and,Bool.and_false,Bool.false_and,Bool.or_true,Bool.true_or,Bool.or_false,Bool.false_or,Bool.not_true,Bool.not_false,Bool.false_eq_true,if_true,if_false,reduceIte];rfl]
                      exact fi [na hge,nf,nf,yt,ye (t:=decide (((rfs rf).length:Int)≥2)) h20,na (t:= !(w==0)) (by rw[h21];rfl),cl (hf false),na (t:= !(fitsB ft false)) (by rw[h22];rfl)] (by kernel_rfl) (by kernel_rfl)
                    |false=>
                      rw[hV,show okI (bodyP rf w (fitsB ft false) 2 16 false)=1 from by simp only[body_L h0,rLB,h20,h21,h22,Bool.and_true,Bool.true_and,Bool.and_false,Bool.false_and,Bool.or_true,Bool.true_or,Bool.or_false,Bool.false_or,Bool.not_true,Bool.not_false,Bool.false_eq_true,if_true,if_false,reduceIte];rfl]
                      exact fi [na hge,nf,nf,yt,ye (t:=decide (((rfs rf).length:Int)≥2)) h20,na (t:= !(w==0)) (by rw[h21];rfl),cl (hf false),ye (t:= !(fitsB ft false)) (by rw[h22];rfl)] (by kernel_rfl) (by kernel_rfl)
                  |false=>
                    rw[hV,show okI (bodyP rf w (fitsB ft false) 2 16 false)=1 from by simp only[body_L h0,rLB,h20,h21,Bool.and_true,Bool.true_and,Bool.and_false,Bool.false_and,Bool.or_true,Bool.true_or,Bool.or_false,Bool.false_or,Bool.not_true,Bool.not_false,Bool.false_eq_true,if_true,if_false,reduceIte];rfl]
                    exact fi [na hge,nf,nf,yt,ye (t:=decide (((rfs rf).length:Int)≥2)) h20,ye (t:= !(w==0)) (by rw[h21];rfl),yt] (by kernel_rfl) (by kernel_rfl)
                |false=>
                  rw[hV,show okI (bodyP rf w (fitsB ft false) 2 16 false)=1 from by simp only[body_L h0,rLB,h20,Bool.and_true,Bool.true_and,Bool.and_false,Bool.false_and,Bool.or_true,Bool.true_or,Bool.or_false,Bool.false_or,Bool.not_true,Bool.not_false,Bool.false_eq_true,if_true,if_false,reduceIte];rfl]
                  exact fi [na hge,nf,nf,yt,na (t:=decide (((rfs rf).length:Int)≥2)) h20,yt,yt] (by kernel_rfl) (by kernel_rfl)
              · have hV:=v_3 (b:=b) (s:=s) (t:=t) (ft:=ft) (w:=w) h0 (by simp only[headB,CM.nm,h1,h2,h3,hR,Bool.and_true,Bool.true_and,Bool.and_false,Bool.false_and,Bool.or_true,Bool.true_or,Bool.or_false,Bool.false_or,Bool.not_true,Bool.not_false,Bool.false_eq_true,if_true,if_false,reduceIte];rfl)
                cases h23:(decide (((rfs rf).length:Int)≥1):Bool)with
                |true=>
                  cases h24:(w==0:Bool)with
                  |true=>
                    cases h25:(fitsB ft false:Bool)with
                    |true=>
                      rw[hV,show okI (bodyP rf w (fitsB ft false) 1 16 false)=0 from by simp only[body_L h0,rLB,h23,h24,h25,Bool.and_true,Bool.true_and,Bool.and_false,Bool.false_and,Bool.or_true,Bool.true_or,Bool.or_false,Bool.false_or,Bool.not_true,Bool.not_false,Bool.false_eq_true,if_true,if_false,reduceIte];rfl]
                      exact fi [na hge,nf,nf,nf,ye (t:=decide (((rfs rf).length:Int)≥1)) h23,na (t:= !(w==0)) (by rw[h24];rfl),cl (hf false),na (t:= !(fitsB ft false)) (by rw[h25];rfl)] (by kernel_rfl) (by kernel_rfl)
                    |false=>
                      rw[hV,show okI (bodyP rf w (fitsB ft false) 1 16 false)=1 from by simp only[body_L h0,rLB,h23,h24,h25,Bool.and_true,Bool.true_and,Bool.and_false,Bool.false_and,Bool.or_true,Bool.true_or,Bool.or_false,Bool.false_or,Bool.not_true,Bool.not_false,Bool.false_eq_true,if_true,if_false,reduceIte];rfl]
                      exact fi [na hge,nf,nf,nf,ye (t:=decide (((rfs rf).length:Int)≥1)) h23,na (t:= !(w==0)) (by rw[h24];rfl),cl (hf false),ye (t:= !(fitsB ft false)) (by rw[h25];rfl)] (by kernel_rfl) (by kernel_rfl)
                  |false=>
                    rw[hV,show okI (bodyP rf w (fitsB ft false) 1 16 false)=1 from by simp only[body_L h0,rLB,h23,h24,Bool.and_true,Bool.true_and,Bool.and_false,Bool.false_and,Bool.or_true,Bool.true_or,Bool.or_false,Bool.false_or,Bool.not_true,Bool.not_false,Bool.false_eq_true,if_true,if_false,reduceIte];rfl]
                    exact fi [na hge,nf,nf,nf,ye (t:=decide (((rfs rf).length:Int)≥1)) h23,ye (t:= !(w==0)) (by rw[h24];rfl),yt] (by kernel_rfl) (by kernel_rfl)
                |false=>
                  rw[hV,show okI (bodyP rf w (fitsB ft false) 1 16 false)=1 from by simp only[body_L h0,rLB,h23,Bool.and_true,Bool.true_and,Bool.and_false,Bool.false_and,Bool.or_true,Bool.true_or,Bool.or_false,Bool.false_or,Bool.not_true,Bool.not_false,Bool.false_eq_true,if_true,if_false,reduceIte];rfl]
                  exact fi [na hge,nf,nf,nf,na (t:=decide (((rfs rf).length:Int)≥1)) h23,yt,yt] (by kernel_rfl) (by kernel_rfl)
  |false=>
    rw[v_head h0 (by simp only[headB,CM.nm,h1,Bool.and_true,Bool.true_and,Bool.and_false,Bool.false_and,Bool.or_true,Bool.true_or,Bool.or_false,Bool.false_or,Bool.not_true,Bool.not_false,Bool.false_eq_true,if_true,if_false,reduceIte])]
    exact tr [na (t:=decide (((rfs rf).length:Int)>16)) h0,cl (e_poss6 (b,s)),ye (t:= !(possB (b,s))) (by rw[h1];rfl),yt,yt,yt,yt] (by kernel_rfl)
end
end Go.Proofs.YtmgagedefmmloaaGreatDoor.E.Ca
namespace Go.Proofs.YtmgagedefmmloaaGreatDoor.E.Ca
open Go.RowKit
set_option linter.unusedVariables false
set_option linter.unusedSimpArgs false
section
variable {n r:Int} {l:List Int} {at_i k:Nat}
/-- One of six turns. -/
def turnQ (r:Int):Rat×Rat:=if r=0 then(Rat.divInt 1 1,0)else if r=1 then(0,Rat.divInt 1 1)else if r=2 then(Rat.divInt (-1) 1,0)else if r=3 then(0,Rat.divInt (-1) 1)else if r=4 then(Rat.divInt 3 5,Rat.divInt 4 5)else(Rat.divInt (-5) 13,Rat.divInt 12 13)
theorem o4 {x y:Int} (hx: -100≤x∧x≤100) (hy: -100≤y∧y≤100):Pure PP 71 [ni x,ni y] (.ag (dR (Rat.divInt x y))):=e_of4 (i64 (by omega)) (i64 (by omega))
theorem e_turn (hn:W.Is64 n):Pure PP 105 [ni n] (.ag (dR (turnQ (rnd n 5)).1++dR (turnQ (rnd n 5)).2)):=by
 have ha:=e_around hn 5
 have hr:=rnd_in n 5
 generalize rnd n 5=r at ha hr
 have hc:r=0∨r=1∨r=2∨r=3∨r=4∨r=5:=by omega
 rcases hc with rfl|rfl|rfl|rfl|rfl|rfl
 · rw[show turnQ 0=(Rat.divInt 1 1,0)from rfl];dsimp only;rw[dR_0]
   exact tr [cl ha,yt,cl (o4 (x:=1) (y:=1) (by omega) (by omega))] (by kernel_rfl)
 · rw[show turnQ 1=(0,Rat.divInt 1 1)from rfl];dsimp only;rw[dR_0]
   exact tr [cl ha,nf,yt,cl (o4 (x:=1) (y:=1) (by omega) (by omega))] (by kernel_rfl)
 · rw[show turnQ 2=(Rat.divInt (-1) 1,0)from rfl];dsimp only;rw[dR_0]
   exact tr [cl ha,nf,nf,yt,cl (o4 (x:= -1) (y:=1) (by omega) (by omega))] (by kernel_rfl)
 · rw[show turnQ 3=(0,Rat.divInt (-1) 1)from rfl];dsimp only;rw[dR_0]
   exact tr [cl ha,nf,nf,nf,yt,cl (o4 (x:= -1) (y:=1) (by omega) (by omega))] (by kernel_rfl)
 · exact tr [cl ha,nf,nf,nf,nf,yt,cl (o4 (x:=3) (y:=5) (by omega) (by omega)),cl (o4 (x:=4) (y:=5) (by omega) (by omega))] (by kernel_rfl)
 · exact tr [cl ha,nf,nf,nf,nf,nf,cl (o4 (x:= -5) (y:=13) (by omega) (by omega)),cl (o4 (x:=12) (y:=13) (by omega) (by omega))] (by kernel_rfl)
def smK (n:Int):Nat:=(rnd n 1099511627775).toNat
def smJ (n:Int):Nat:=smK n % 6
def smP (n:Int):Int:=((smK n / 6 % (16*(smJ n+1)+1):Nat):Int) - ((8*(smJ n+1):Nat):Int)
def smallQ (n:Int):Rat:=Rat.divInt (smP n) ((smJ n+1:Nat):Int)
theorem sm_in (n:Int):rnd n 1099511627775=(smK n:Int)∧smJ n<6∧ -48≤smP n∧smP n≤48:=by
 have:=rnd_in n 1099511627775
 have hj:smJ n<6:=Nat.mod_lt _ (by omega)
 have h2:=Nat.mod_lt (smK n / 6) (show 0<16*(smJ n+1)+1 by omega)
 refine⟨by unfold smK;omega,hj, ?_⟩
 unfold smP
 omega
theorem e_small (hn:W.Is64 n):Pure PP 106 [ni n] (.ag (dR (smallQ n))):=by
 have ha:=e_around hn 1099511627775
 obtain⟨h1,h2,h3,h4⟩:=sm_in n
 have h5:smK n≤1099511627775:=by have:=rnd_in n 1099511627775;omega
 rw[h1]at ha
 exact tr [cl ha,.eqv 8 (ni ((smK n:Int).tmod 6)) (ni (smJ n:Int)) (by rw[show((6:Int))=((6:Nat):Int)from rfl,tmod_];rfl),wq 9 (1+(smJ n:Int)) ((smJ n+1:Nat):Int) (by omega),
   wq 11 ((smK n:Int).tdiv 6) ((smK n / 6:Nat):Int) ⟨rfl,by omega⟩,wq 13 (16*((smJ n+1:Nat):Int)) ((16*(smJ n+1):Nat):Int) (by omega),wq 14 (((16*(smJ n+1):Nat):Int)+1) ((16*(smJ n+1)+1:Nat):Int) (by omega),
   .eqv 15 (ni (((smK n / 6:Nat):Int).tmod ((16*(smJ n+1)+1:Nat):Int))) (ni ((smK n / 6 % (16*(smJ n+1)+1):Nat):Int)) (by rw[tmod_]),wq 17 (8*((smJ n+1:Nat):Int)) ((8*(smJ n+1):Nat):Int) (by omega),wq 18 (((smK n / 6 % (16*(smJ n+1)+1):Nat):Int) - ((8*(smJ n+1):Nat):Int)) (smP n) (by unfold smP at*;omega),cl (o4 (x:=smP n) (y:=((smJ n+1:Nat):Int)) (by omega) (by omega))] (by kernel_rfl)
theorem small_bits (n:Int):Bq 7 (smallQ n):=by
 obtain⟨h1,h2,h3,h4⟩:=sm_in n
 exact Bq.divInt (bd7 (by omega) (by omega)) (bd7 (by omega) (by omega)) (by omega)
/-- The generator's fit. -/
def fitQ (l:List Int) (i:Nat):FQ:=
 ⟨atz l i 2,atz l i 2+1+atz l (i+1) 1,atz l (i+2) 11,atz l (i+3) 11,1+atz l (i+4) 2,(turnQ (rnd (atz l (i+5) 5) 5)).1,(turnQ (rnd (atz l (i+5) 5) 5)).2,smallQ (atz l (i+6) 999),smallQ (atz l (i+7) 999),smallQ (atz l (i+6) 999)+Rat.divInt (atz l (i+8) 2) 2,smallQ (atz l (i+7) 999)⟩
noncomputable def at_n (t i k:Nat) (h:i+k<9000000000000000000):F_:=wq t ((i:Int)+(k:Int)) ((i+k:Nat):Int) (by omega)
theorem e_fit (hl:∀ x∈l,W.Is64 x) (i:Nat) (hi:i<1000000):Pure PP 57 [zl l,ni i] (.ag (dF (fitQ l i).fm)):=by
 have h0:=atz_in l i 2
 have h1:=atz_in l (i+1) 1
 have h4:=atz_in l (i+4) 2
 have h5:=atz_in l (i+5) 5
 have h6:=atz_in l (i+6) 999
 have h7:=atz_in l (i+7) 999
 have h8:=atz_in l (i+8) 2
 exact tr [cl (e_at hl i 2),wq 12 (atz l i 2+1) (atz l i 2+1) (by omega),at_n 15 i 1 (by omega),cl (e_at hl (i+1) 1),wq 17 (atz l i 2+1+atz l (i+1) 1) (atz l i 2+1+atz l (i+1) 1) (by omega),at_n 20 i 2 (by omega),cl (e_at hl (i+2) 11),at_n 24 i 3 (by omega),cl (e_at hl (i+3) 11),at_n 28 i 4 (by omega),cl (e_at hl (i+4) 2),wq 30 (1+atz l (i+4) 2) (1+atz l (i+4) 2) (by omega),at_n 33 i 5 (by omega),cl (e_at hl (i+5) 5),cl (e_turn (n:=atz l (i+5) 5) (i64 (by omega))),
   at_n 39 i 6 (by omega),cl (e_at hl (i+6) 999),cl (e_small (n:=atz l (i+6) 999) (i64 (by omega))),at_n 44 i 7 (by omega),cl (e_at hl (i+7) 999),cl (e_small (n:=atz l (i+7) 999) (i64 (by omega))),
   at_n 54 i 8 (by omega),cl (e_at hl (i+8) 2),cl (o4 (x:=atz l (i+8) 2) (y:=2) (by omega) (by omega)),cl (e_add4 (small_bits (atz l (i+6) 999)) (Bq.divInt (bd7 (x:=atz l (i+8) 2) (by omega) (by omega)) (bd7 (x:=2) (by omega) (by omega)) (by omega)) (by omega))] (by kernel_rfl)
/-- Nothing. -/
def rz:RN:=⟨false,[],false,[]⟩
def zF:FM:=⟨0,0,0,0,0,rz,rz,rz,rz,rz,rz⟩
theorem ofR_0:ofR 0=rz:=by
 unfold ofR rz
 rw[show(0:Rat).num=0 from rfl,dq_one (r:=(0:Rat)) rfl,show digs (0:Int).natAbs=[]from digs_z rfl]
 rfl
def zQ:FQ:=⟨0,0,0,0,0,0,0,0,0,0,0⟩
theorem zQ_fm:zQ.fm=zF:=by unfold zQ FQ.fm zF;rw[ofR_0]
end
end Go.Proofs.YtmgagedefmmloaaGreatDoor.E.Ca
namespace Go.Proofs.YtmgagedefmmloaaGreatDoor.E.Ca
open Go.RowKit
set_option linter.unusedVariables false
set_option linter.unusedSimpArgs false
def posN (o:List (Int×Int)) (n:Int×Int):Nat→Nat
 |0=>0
 |k+1=>if lessN n (o.getD k (0,0))=true then posN o n k else k+1
def insN (o:List (Int×Int)) (n:Int×Int):List (Int×Int):=o.take (posN o n o.length)++[n]++o.drop (posN o n o.length)
def bitB (bits:Int) (i:Nat):Bool:=(bits.fdiv (2 ^ min (IntKind.u64.wrap (i:Int)).toNat IntKind.i64.bits)).tmod 2==1
def refsF (L:List CM) (bits:Int):Nat→List (Int×Int)
 |0=>[]
 |i+1=>if bitB bits i=true then insN (refsF L bits i) (L.getD i ⟨0,0,0,0,[],zF,0⟩).nm else refsF L bits i
abbrev c0:CM:=⟨0,0,0,0,[],zF,0⟩
section
variable {L:List CM} {bits:Int} {i k:Nat} {o:List (Int×Int)} {n:Int×Int}
theorem posN_le:∀ k,posN o n k≤k
 |0=>Nat.le_refl _
 |k+1=>by
  unfold posN
  split
  · exact Nat.le_succ_of_le (posN_le k)
  · exact Nat.le_refl _
theorem insN_len:(insN o n).length=o.length+1:=by
 have:=posN_le (o:=o) (n:=n) o.length
 unfold insN
 simp
 omega
theorem refsF_len:∀ i,(refsF L bits i).length≤i
 |0=>Nat.le_refl _
 |i+1=>by
  have:=refsF_len i
  unfold refsF
  split
  · rw[insN_len];omega
  · omega
theorem nm_ok (o:List (Int×Int)):∀ cs∈rfs o,cs.length=2∧cs.all one=true:=fun cs h=>by
 obtain⟨a,_,rfl⟩:=List.mem_map.1 h
 exact⟨rfl,rfl⟩
theorem nm_len (o:List (Int×Int)):∀ cs∈rfs o,cs.length=2:=fun cs h=>(nm_ok o cs h).1
theorem rfs_len (o:List (Int×Int)):(rfs o).length=o.length:=List.length_map ..
theorem rfs_app (a b:List (Int×Int)):rfs a++rfs b=rfs (a++b):=List.map_append.symm
theorem getc {L:List CM} (h:i<L.length):L[i]? =some (L.getD i c0):=by rw[List.getD_eq_getElem?_getD,List.getElem?_eq_getElem h];rfl
theorem elC {L:List CM} (h:i<L.length):(L.map dC)[i]? =some (dC (L.getD i c0)):=sel_map (f:=dC) (getc h)
noncomputable abbrev frs:Func:=fnOf PP 97
noncomputable def XR (L:List CM) (bits:Int) (o:List (Int×Int)) (i:Nat):St:=at_ frs [(0,.sl (L.map dC)),(1,ni bits),(5,.ow 0),(6,ni i)] [.rw 79 2 (rfs o)]
noncomputable def YR (L:List CM) (bits:Int) (o:List (Int×Int)) (i:Nat) (n:Int×Int) (k:Nat):St:=at_ frs [(0,.sl (L.map dC)),(1,ni bits),(5,.sl (rfs o)),(6,ni i),(7,.lp 1 0),(8,ni k)] [.dead,.bx 79 (nm n)]
abbrev GRs (D:RD) (td:List Item) (σ:St):Prop:=Gd PP 97 D td σ
theorem refs_in {R:List (List V)} (hk:k≤o.length) (hn:o.length≤1000) (hi:i<1000) (he:posN o n o.length=posN o n k) (next:GRs (.o 79 2 R) (lp frs 0) (XR L bits (insN o n) (i+1))):GRs (.o 79 2 R) (lp frs 1) (YR L bits o i n k):=by
 refine Gd.loop (YR L bits o i n) (fun k=>k≤o.length∧posN o n o.length=posN o n k) (fun k=>k) ?_ k ⟨hk,he⟩
 intro k ⟨hk,he⟩ ih
 match k,hk,he,ih with
 |0,hk,he,ih=>
  have hin:insN o n=[]++[n]++o:=by unfold insN;rw[he];rfl
  rw[hin]at next
  by_cases h0:o=[]
  · subst h0
    exact .to mo_ [.mv 0 4] [0,1,5,6] [0] 1 [na (t:=decide (((0:Nat):Int)>0)) rfl,nf,.slc (rfs []) 0 0 2 [] rfl ⟨Nat.le_refl _,Nat.le_refl _⟩ (nm_len []),.ape [] rfl,.app [] [nm n] [nm n] 2000 rfl (by simp) (by simp),.slc (rfs []) 0 0 2 [] rfl ⟨Nat.le_refl _,Nat.le_refl _⟩ (nm_len []),.ape [] rfl,inc 18 i (by omega)] next (by kernel_rfl)
  · have hp:0<o.length:=List.length_pos_iff.2 h0
    exact .to mo_ [.mv 0 5] [0,1,5,6] [0] 1 [na (t:=decide (((0:Nat):Int)>0)) rfl,nf,.slc (rfs o) 0 0 2 [] rfl ⟨Nat.le_refl _,Nat.zero_le _⟩ (nm_len o),.ape [] rfl,.app [] [nm n] [nm n] 2000 rfl (by simp) (by simp),.slc (rfs o) 0 (rfs o).length 2 (rfs o) (by rw[List.take_length];rfl) ⟨Nat.zero_le _,Nat.le_refl _⟩ (nm_len o),.aps [nm n] (rfs o) (rfs ([]++[n]++o)) 2000 2 rfl (by rw[rfs_len];exact hp) (by simp[rfs];omega) (nm_ok o),inc 18 i (by omega)] next (by kernel_rfl)
 | k + 1, hk, he, ih =>
  have el:=el_n (rf:=o) (i:=k) (by omega)
  have hgt:decide (((k+1:Nat):Int)>0)=true:=decide_eq_true (by omega)
  cases hb:lessN n (o.getD k (0,0))with
  |true=>exact .to mo_ [] [0,1,5,6,7,8] [1] 2 [ye hgt,wq 44 (((k+1:Nat):Int) - 1) (k:Int) (by omega),.sel _ _ _ el,cl (e_less6 n (o.getD k (0,0))),ye (t:=lessN n (o.getD k (0,0))) hb,wq 50 (((k+1:Nat):Int) - 1) (k:Int) (by omega)] (ih k ⟨by omega,by rw[he];show(if lessN n (o.getD k (0,0))=true then _ else _)=_;rw[if_pos hb]⟩ (by omega)) (by kernel_rfl)
  |false=>
   have hpos:posN o n o.length=k+1:=by rw[he];show(if lessN n (o.getD k (0,0))=true then _ else _)=_;rw[if_neg (by rw[hb];exact Bool.false_ne_true)]
   have hin:insN o n=o.take (k+1)++[n]++o.drop (k+1):=by unfold insN;rw[hpos]
   rw[hin]at next
   have ht:(rfs o).take (k+1)=rfs (o.take (k+1)):=by unfold rfs;rw[List.map_take]
   have hd:(rfs o).drop (k+1)=rfs (o.drop (k+1)):=by unfold rfs;rw[List.map_drop]
   let F:List F_:=[ye hgt,wq 44 (((k+1:Nat):Int) - 1) (k:Int) (by omega),.sel _ _ _ el,cl (e_less6 n (o.getD k (0,0))),na (t:=lessN n (o.getD k (0,0))) hb,.slc (rfs o) 0 (k+1) 2 (rfs (o.take (k+1))) (by rw[←ht];rfl) ⟨Nat.zero_le _,by rw[rfs_len];exact hk⟩ (nm_len o),.aps [] (rfs (o.take (k+1))) (rfs (o.take (k+1))) 2000 2 rfl (by rw[rfs_len,List.length_take];omega) (by rw[rfs_len,List.length_take];omega) (nm_ok _),.app (rfs (o.take (k+1))) [nm n] (rfs (o.take (k+1)++[n])) 2000 (by rw[←rfs_app];rfl) (by simp) (by rw[rfs_len];simp;omega)]
   by_cases h0:o.drop (k+1)=[]
   · rw[h0,List.append_nil]at next
     exact .to mo_ [.mv 0 5] [0,1,5,6] [0] 1 (F++[.slc (rfs o) (k+1) (rfs o).length 2 [] (by rw[List.take_length,hd,h0];rfl) ⟨by rw[rfs_len];exact hk,Nat.le_refl _⟩ (nm_len o),.ape [] rfl,inc 18 i (by omega)]) next (by kernel_rfl)
   · have hp:0<(o.drop (k+1)).length:=List.length_pos_iff.2 h0
     exact .to mo_ [.mv 0 6] [0,1,5,6] [0] 1 (F++[.slc (rfs o) (k+1) (rfs o).length 2 (rfs (o.drop (k+1))) (by rw[List.take_length,hd]) ⟨by rw[rfs_len];exact hk,Nat.le_refl _⟩ (nm_len o),.aps (rfs (o.take (k+1)++[n])) (rfs (o.drop (k+1))) (rfs (o.take (k+1)++[n]++o.drop (k+1))) 2000 2 (rfs_app _ _) (by rw[rfs_len];exact hp) (by rw[rfs_len];simp;omega) (nm_ok _),inc 18 i (by omega)]) next (by kernel_rfl)
theorem e_refs (hL:L.length≤10) (hw:W.Is64 bits):Pure PP 97 [.sl (L.map dC),ni bits] (.o 79 2 (rfs (refsF L bits L.length))):=by
 have hl:(L.map dC).length=L.length:=List.length_map ..
 refine pf (by kernel_rfl) (.to mo_ [.ow 5 (.rw 79 2 [])] [0,1,5,6] [0] 1 [] (td':=lp frs 0) (σ':=XR L bits [] 0) ?_ (by kernel_rfl))
 refine Gd.loop (fun x:Nat×List (Int×Int)=>XR L bits x.2 x.1) (fun x=>x.1≤L.length∧x.2=refsF L bits x.1) (fun x=>L.length - x.1) ?_ (0,[]) ⟨Nat.zero_le _,rfl⟩
 rintro ⟨i,o⟩ ⟨hi,ho⟩ ih
 simp only at hi ho
 subst ho
 have hlen:=refsF_len (L:=L) (bits:=bits) i
 by_cases h:i<L.length
 · have e:=elC h
   have hi10:decide ((i:Int)<10)=true:=decide_eq_true (by omega)
   have hlt:decide ((i:Int)<((L.map dC).length:Int))=true:=decide_eq_true (by omega)
   let F:List F_:=[ye hlt,ye hi10,.sel _ _ _ e,.sel _ _ _ e]
   cases hb:bitB bits i with
   |false=>exact .to mo_ [] [0,1,5,6] [0] 1 (F++[na (t:=bitB bits i) hb,inc 18 i (by omega)]) (ih (i+1,refsF L bits i) ⟨h,by show _=(if bitB bits i=true then _ else _);rw[if_neg (by rw[hb];exact Bool.false_ne_true)]⟩ (by simp only;omega)) (by kernel_rfl)
   |true=>
    refine .to mo_ [.fz 5] [0,1,5,6,7,8] [1] 2 (F++[ye (t:=bitB bits i) hb,.eqv 8 (ni ((rfs (refsF L bits i)).length:Int)) (ni ((refsF L bits i).length:Int)) (by rw[rfs_len])]) (td':=lp frs 1) (σ':=YR L bits (refsF L bits i) i (L.getD i c0).nm (refsF L bits i).length) ?_ (by kernel_rfl)
    exact refs_in (Nat.le_refl _) (by omega) (by omega) rfl (ih (i+1,insN (refsF L bits i) (L.getD i c0).nm) ⟨h,by show _=(if bitB bits i=true then _ else _);rw[if_pos hb]⟩ (by simp only;omega))
 · rw[show L.length=i by omega]
   exact fi [na (t:=decide ((i:Int)<((L.map dC).length:Int))) (decide_eq_false (by omega)),nf] (by kernel_rfl) (by kernel_rfl)
end
end Go.Proofs.YtmgagedefmmloaaGreatDoor.E.Ca
