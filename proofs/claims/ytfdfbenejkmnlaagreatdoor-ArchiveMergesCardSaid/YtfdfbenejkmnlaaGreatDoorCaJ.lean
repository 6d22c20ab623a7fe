/-
 CLAIMS: Good, the generator, by the engine (printed by gen/caj.py).
-/
import Derived.Test.YtfdfbenejkmnlaaGreatDoorCaF
namespace Go.Proofs.YtfdfbenejkmnlaaGreatDoor.E.Ca
open Go.RowKit
set_option linter.unusedVariables false
set_option linter.unusedSimpArgs false
section
variable {k:Nat} {rf:List (Int×Int)} {b s t kd w:Int} {ft:FM} {fb:Bool}
def r0B (rf:List (Int×Int)) (w:Int):Bool:=(((rfs rf).length:Int)==0)&&decide (w≥1)&&decide (w≤1024)
def rLB (rf:List (Int×Int)) (w L:Int):Bool:=decide (((rfs rf).length:Int)≥L)&&(w==0)
theorem body_0:bodyP rf w fb 0 0 true= !(r0B rf w&&fb):=by
 unfold bodyP r0B
 have hn:0≤((rfs rf).length:Int):=Int.natCast_nonneg _
 generalize ((rfs rf).length:Int)=n at*
 rw[Bool.eq_iff_iff]
 cases fb<;>simp<;>omega
theorem body_L {L:Int} (h:decide (((rfs rf).length:Int)>16)=false):bodyP rf w fb L 16 false= !(rLB rf w L&&fb):=by
 unfold bodyP rLB
 generalize ((rfs rf).length:Int)=n at*
 simp at h
 rw[Bool.eq_iff_iff]
 cases fb<;>simp<;>omega
noncomputable abbrev fv6:Func:=fnOf PP 66
theorem e_cvalid6 {c : CM} (hb : FBits k c.fit) (hk : 1 ≤ k ∧ k ≤ 100000) : Pure PP 66 [.ag (dC c)] (ni (validI c)) := by
 refine .lenA 0 4 (l:=rfs c.refs) (by kernel_rfl) rfl rfl fun hm=> ?_
 rw[rfs,List.length_map]at hm
 unfold maxLen at hm
 have hf:=e_fits6 hb hk
 cases h0:decide (((rfs c.refs).length:Int)>16)with
 |true=>
  rw[v_long h0]
  exact tr [ye (t:=decide (((rfs c.refs).length:Int)>16)) h0] (by kernel_rfl)
 | false =>
  obtain⟨b,s,t,kd,rf,ft,w⟩:=c
  have hm:rf.length≤9223372036854775807:=hm
  cases h1:(possB (b,s):Bool)with
  | true =>
    cases h2:(decide (t<0):Bool)with
    |true=>
      rw[v_head h0 (by simp only[headB,CM.nm,h1,h2,Bool.and_true,Bool.true_and,Bool.and_false,Bool.false_and,Bool.or_true,Bool.true_or,Bool.or_false,Bool.false_or,Bool.not_true,Bool.not_false,Bool.false_eq_true,if_true,if_false,reduceIte])]
      exact tr [na (t:=decide (((rfs rf).length:Int)>16)) h0,cl (e_poss6 (b,s)),na (t:= !(possB (b,s))) (by rw[h1];rfl),ye (t:=decide (t<0)) h2,yt,yt,yt] (by kernel_rfl)
    | false =>
      cases h3:(decide (t>1048576):Bool)with
      |true=>
        rw[v_head h0 (by simp only[headB,CM.nm,h1,h2,h3,Bool.and_true,Bool.true_and,Bool.and_false,Bool.false_and,Bool.or_true,Bool.true_or,Bool.or_false,Bool.false_or,Bool.not_true,Bool.not_false,Bool.false_eq_true,if_true,if_false,reduceIte])]
        exact tr [na (t:=decide (((rfs rf).length:Int)>16)) h0,cl (e_poss6 (b,s)),na (t:= !(possB (b,s))) (by rw[h1];rfl),na (t:=decide (t<0)) h2,ye (t:=decide (t>1048576)) h3,yt,yt] (by kernel_rfl)
      | false =>
        cases h4:(decide (kd<0):Bool)with
        |true=>
          rw[v_head h0 (by simp only[headB,CM.nm,h1,h2,h3,h4,Bool.and_true,Bool.true_and,Bool.and_false,Bool.false_and,Bool.or_true,Bool.true_or,Bool.or_false,Bool.false_or,Bool.not_true,Bool.not_false,Bool.false_eq_true,if_true,if_false,reduceIte])]
          exact tr [na (t:=decide (((rfs rf).length:Int)>16)) h0,cl (e_poss6 (b,s)),na (t:= !(possB (b,s))) (by rw[h1];rfl),na (t:=decide (t<0)) h2,na (t:=decide (t>1048576)) h3,ye (t:=decide (kd<0)) h4,yt] (by kernel_rfl)
        | false =>
          cases h5:(decide (kd>3):Bool)with
          |true=>
            rw[v_head h0 (by simp only[headB,CM.nm,h1,h2,h3,h4,show decide (kd≥4)=true from by simp at h5;simp;omega,Bool.and_true,Bool.true_and,Bool.and_false,Bool.false_and,Bool.or_true,Bool.true_or,Bool.or_false,Bool.false_or,Bool.not_true,Bool.not_false,Bool.false_eq_true,if_true,if_false,reduceIte])]
            exact tr [na (t:=decide (((rfs rf).length:Int)>16)) h0,cl (e_poss6 (b,s)),na (t:= !(possB (b,s))) (by rw[h1];rfl),na (t:=decide (t<0)) h2,na (t:=decide (t>1048576)) h3,na (t:=decide (kd<0)) h4,ye (t:=decide (kd>3)) h5] (by kernel_rfl)
          | false =>
            have hkd:kd=0∨kd=1∨kd=2∨kd=3:=by simp at h4 h5;omega
            let X:Nat→St:=fun i=>at_ fv6 [(1,.lp 0 0),(3,ni ((rfs rf).length:Int)),(4,ni i)] [.bx 42 (dC ⟨b,s,t,kd,rf,ft,w⟩)]
            refine pf (by kernel_rfl) (.to mo_ [] [1,3,4] [0] 1 [na (t:=decide (((rfs rf).length:Int)>16)) h0,cl (e_poss6 (b,s)),na (t:= !(possB (b,s))) (by rw[h1];rfl),na (t:=decide (t<0)) h2,na (t:=decide (t>1048576)) h3,na (t:=decide (kd<0)) h4,na (t:=decide (kd>3)) h5] (td':=lp fv6 0) (σ':=X 0) ?_ (by kernel_rfl))
            refine Gd.loop X (fun i=>i≤rf.length∧∀ t,t<i→badAt (b,s) rf t=false) (fun i=>rf.length - i) ?_ 0 ⟨Nat.zero_le _,fun t h=>absurd h (Nat.not_lt_zero t)⟩
            intro i ⟨hi,hI⟩ ih
            by_cases h:i<rf.length
            · have hlt:decide ((i:Int)<((rfs rf).length:Int))=true:=decide_eq_true (by rw[rfs,List.length_map];omega)
              have e1:=el_n h
              have e2:=el_n (rf:=rf) (i:=i - 1) (by omega)
              have next:badAt6 (b,s) rf i=false→Gd PP 66 (ni (validI ⟨b,s,t,kd,rf,ft,w⟩)) (lp fv6 0) (X (i+1)):=fun hb=>ih (i+1) ⟨h,no_more hI (by rw[←bad6];exact hb)⟩ (by omega)
              have stop:badAt6 (b,s) rf i=true→validI ⟨b,s,t,kd,rf,ft,w⟩=1:=fun hb=>v_head h0 (by simp only[headB,CM.nm,refers_no h (by rw[←bad6];exact hb),Bool.and_true,Bool.true_and,Bool.and_false,Bool.false_and,Bool.or_true,Bool.true_or,Bool.or_false,Bool.false_or,Bool.not_true,Bool.not_false,Bool.false_eq_true,if_true,if_false,reduceIte])
              generalize hA:rf.getD i (0,0)=a at e1
              generalize hP:rf.getD (i - 1) (0,0)=z at e2
              have hbad:badAt6 (b,s) rf i=(!possB a||(a.1==b&&a.2==s)||(decide ((i:Int)>0)&& !lessN z a)):=by unfold badAt6;rw[hA,hP]
              cases h6:(possB a:Bool)with
              | true =>
                cases h7:(a.1==b:Bool)with
                | true =>
                  cases h8:(a.2==s:Bool)with
                  |true=>
                    rw[stop (by simp only[hbad,h6,h7,h8,Bool.and_true,Bool.true_and,Bool.and_false,Bool.false_and,Bool.or_true,Bool.true_or,Bool.or_false,Bool.false_or,Bool.not_true,Bool.not_false,Bool.false_eq_true,if_true,if_false,reduceIte])]
                    exact fi [ye hlt,.sel _ _ _ e1,cl (e_poss6 a),na (t:= !(possB a)) (by rw[h6];rfl),.sel _ _ _ e1,ye (t:=a.1==b) h7,.sel _ _ _ e1,ye (t:=a.2==s) h8,yt] (by kernel_rfl) (by kernel_rfl)
                  |false=>
                    cases h9:(decide ((i:Int)>0):Bool)with
                    |true=>
                      cases h10:(lessN z a:Bool)with
                      |true=>
                        exact .to mo_ [] [1,3,4] [0] 1 [ye hlt,.sel _ _ _ e1,cl (e_poss6 a),na (t:= !(possB a)) (by rw[h6];rfl),.sel _ _ _ e1,ye (t:=a.1==b) h7,.sel _ _ _ e1,na (t:=a.2==s) h8,ye (t:=decide ((i:Int)>0)) h9,wq 79 ((i:Int) - 1) ((i - 1:Nat):Int) (by simp at h9;omega),.sel _ _ _ e2,.sel _ _ _ e1,cl (e_less6 z a),na (t:= !(lessN z a)) (by rw[h10];rfl),inc 42 i (by omega)] (next (by simp only[hbad,h6,h7,h8,h9,h10,Bool.and_true,Bool.true_and,Bool.and_false,Bool.false_and,Bool.or_true,Bool.true_or,Bool.or_false,Bool.false_or,Bool.not_true,Bool.not_false,Bool.false_eq_true,if_true,if_false,reduceIte])) (by kernel_rfl)
                      |false=>
                        rw[stop (by simp only[hbad,h6,h7,h8,h9,h10,Bool.and_true,Bool.true_and,Bool.and_false,Bool.false_and,Bool.or_true,Bool.true_or,Bool.or_false,Bool.false_or,Bool.not_true,Bool.not_false,Bool.false_eq_true,if_true,if_false,reduceIte])]
                        exact fi [ye hlt,.sel _ _ _ e1,cl (e_poss6 a),na (t:= !(possB a)) (by rw[h6];rfl),.sel _ _ _ e1,ye (t:=a.1==b) h7,.sel _ _ _ e1,na (t:=a.2==s) h8,ye (t:=decide ((i:Int)>0)) h9,wq 79 ((i:Int) - 1) ((i - 1:Nat):Int) (by simp at h9;omega),.sel _ _ _ e2,.sel _ _ _ e1,cl (e_less6 z a),ye (t:= !(lessN z a)) (by rw[h10];rfl)] (by kernel_rfl) (by kernel_rfl)
                    |false=>
                      exact .to mo_ [] [1,3,4] [0] 1 [ye hlt,.sel _ _ _ e1,cl (e_poss6 a),na (t:= !(possB a)) (by rw[h6];rfl),.sel _ _ _ e1,ye (t:=a.1==b) h7,.sel _ _ _ e1,na (t:=a.2==s) h8,na (t:=decide ((i:Int)>0)) h9,nf,inc 42 i (by omega)] (next (by simp only[hbad,h6,h7,h8,h9,Bool.and_true,Bool.true_and,Bool.and_false,Bool.false_and,Bool.or_true,Bool.true_or,Bool.or_false,Bool.false_or,Bool.not_true,Bool.not_false,Bool.false_eq_true,if_true,if_false,reduceIte])) (by kernel_rfl)
                |false=>
                  cases h11:(decide ((i:Int)>0):Bool)with
                  |true=>
                    cases h12:(lessN z a:Bool)with
                    |true=>
                      exact .to mo_ [] [1,3,4] [0] 1 [ye hlt,.sel _ _ _ e1,cl (e_poss6 a),na (t:= !(possB a)) (by rw[h6];rfl),.sel _ _ _ e1,na (t:=a.1==b) h7,nf,ye (t:=decide ((i:Int)>0)) h11,wq 79 ((i:Int) - 1) ((i - 1:Nat):Int) (by simp at h11;omega),.sel _ _ _ e2,.sel _ _ _ e1,cl (e_less6 z a),na (t:= !(lessN z a)) (by rw[h12];rfl),inc 42 i (by omega)] (next (by simp only[hbad,h6,h7,h11,h12,Bool.and_true,Bool.true_and,Bool.and_false,Bool.false_and,Bool.or_true,Bool.true_or,Bool.or_false,Bool.false_or,Bool.not_true,Bool.not_false,Bool.false_eq_true,if_true,if_false,reduceIte])) (by kernel_rfl)
                    |false=>
                      rw[stop (by simp only[hbad,h6,h7,h11,h12,Bool.and_true,Bool.true_and,Bool.and_false,Bool.false_and,Bool.or_true,Bool.true_or,Bool.or_false,Bool.false_or,Bool.not_true,Bool.not_false,Bool.false_eq_true,if_true,if_false,reduceIte])]
                      exact fi [ye hlt,.sel _ _ _ e1,cl (e_poss6 a),na (t:= !(possB a)) (by rw[h6];rfl),.sel _ _ _ e1,na (t:=a.1==b) h7,nf,ye (t:=decide ((i:Int)>0)) h11,wq 79 ((i:Int) - 1) ((i - 1:Nat):Int) (by simp at h11;omega),.sel _ _ _ e2,.sel _ _ _ e1,cl (e_less6 z a),ye (t:= !(lessN z a)) (by rw[h12];rfl)] (by kernel_rfl) (by kernel_rfl)
                  |false=>
                    exact .to mo_ [] [1,3,4] [0] 1 [ye hlt,.sel _ _ _ e1,cl (e_poss6 a),na (t:= !(possB a)) (by rw[h6];rfl),.sel _ _ _ e1,na (t:=a.1==b) h7,nf,na (t:=decide ((i:Int)>0)) h11,nf,inc 42 i (by omega)] (next (by simp only[hbad,h6,h7,h11,Bool.and_true,Bool.true_and,Bool.and_false,Bool.false_and,Bool.or_true,Bool.true_or,Bool.or_false,Bool.false_or,Bool.not_true,Bool.not_false,Bool.false_eq_true,if_true,if_false,reduceIte])) (by kernel_rfl)
              |false=>
                rw[stop (by simp only[hbad,h6,Bool.and_true,Bool.true_and,Bool.and_false,Bool.false_and,Bool.or_true,Bool.true_or,Bool.or_false,Bool.false_or,Bool.not_true,Bool.not_false,Bool.false_eq_true,if_true,if_false,reduceIte])]
                exact fi [ye hlt,.sel _ _ _ e1,cl (e_poss6 a),ye (t:= !(possB a)) (by rw[h6];rfl),yt,yt] (by kernel_rfl) (by kernel_rfl)
            · have hR := refers_yes h hI
              have hge:decide ((i:Int)<((rfs rf).length:Int))=false:=decide_eq_false (by rw[rfs,List.length_map];omega)
              rcases hkd with rfl|rfl|rfl|rfl
              · have hV := v_0 (b := b) (s := s) (t := t) (ft := ft) (w := w) h0 (by simp only [headB, CM.nm, h1, h2, h3, hR, Bool.and_true, Bool.true_and, Bool.and_false, Bool.false_and, Bool.or_true, Bool.true_or, Bool.or_false, Bool.false_or, Bool.not_true, Bool.not_false, Bool.false_eq_true, if_true, if_false, reduceIte]; rfl)
                cases h13:(((rfs rf).length:Int)==0:Bool)with
                | true =>
                  cases h14:(decide (w≥1):Bool)with
                  |true=>
                    cases h15:(decide (w≤1024):Bool)with
                    |true=>
                      cases h16:(fitsB ft false:Bool)with
                      |true=>
                        rw[hV,show okI (bodyP rf w (fitsB ft false) 0 0 true)=0 from by simp only[body_0,r0B,h13,h14,h15,h16,Bool.and_true,Bool.true_and,Bool.and_false,Bool.false_and,Bool.or_true,Bool.true_or,Bool.or_false,Bool.false_or,Bool.not_true,Bool.not_false,Bool.false_eq_true,if_true,if_false,reduceIte];rfl]
                        exact fi [na hge,yt,ye (t:=((rfs rf).length:Int)==0) h13,ye (t:=decide (w≥1)) h14,na (t:= !(decide (w≤1024))) (by rw[h15];rfl),cl (hf false),na (t:= !(fitsB ft false)) (by rw[h16];rfl)] (by kernel_rfl) (by kernel_rfl)
                      |false=>
                        rw[hV,show okI (bodyP rf w (fitsB ft false) 0 0 true)=1 from by simp only[body_0,r0B,h13,h14,h15,h16,Bool.and_true,Bool.true_and,Bool.and_false,Bool.false_and,Bool.or_true,Bool.true_or,Bool.or_false,Bool.false_or,Bool.not_true,Bool.not_false,Bool.false_eq_true,if_true,if_false,reduceIte];rfl]
                        exact fi [na hge,yt,ye (t:=((rfs rf).length:Int)==0) h13,ye (t:=decide (w≥1)) h14,na (t:= !(decide (w≤1024))) (by rw[h15];rfl),cl (hf false),ye (t:= !(fitsB ft false)) (by rw[h16];rfl)] (by kernel_rfl) (by kernel_rfl)
                    |false=>
                      rw[hV,show okI (bodyP rf w (fitsB ft false) 0 0 true)=1 from by simp only[body_0,r0B,h13,h14,h15,Bool.and_true,Bool.true_and,Bool.and_false,Bool.false_and,Bool.or_true,Bool.true_or,Bool.or_false,Bool.false_or,Bool.not_true,Bool.not_false,Bool.false_eq_true,if_true,if_false,reduceIte];rfl]
                      exact fi [na hge,yt,ye (t:=((rfs rf).length:Int)==0) h13,ye (t:=decide (w≥1)) h14,ye (t:= !(decide (w≤1024))) (by rw[h15];rfl),yt] (by kernel_rfl) (by kernel_rfl)
                  |false=>
                    rw[hV,show okI (bodyP rf w (fitsB ft false) 0 0 true)=1 from by simp only[body_0,r0B,h13,h14,Bool.and_true,Bool.true_and,Bool.and_false,Bool.false_and,Bool.or_true,Bool.true_or,Bool.or_false,Bool.false_or,Bool.not_true,Bool.not_false,Bool.false_eq_true,if_true,if_false,reduceIte];rfl]
                    exact fi [na hge,yt,ye (t:=((rfs rf).length:Int)==0) h13,na (t:=decide (w≥1)) h14,yt,yt] (by kernel_rfl) (by kernel_rfl)
                |false=>
                  rw[hV,show okI (bodyP rf w (fitsB ft false) 0 0 true)=1 from by simp only[body_0,r0B,h13,Bool.and_true,Bool.true_and,Bool.and_false,Bool.false_and,Bool.or_true,Bool.true_or,Bool.or_false,Bool.false_or,Bool.not_true,Bool.not_false,Bool.false_eq_true,if_true,if_false,reduceIte];rfl]
                  exact fi [na hge,yt,na (t:=((rfs rf).length:Int)==0) h13,nf,yt,yt] (by kernel_rfl) (by kernel_rfl)
              · have hV:=v_1 (b:=b) (s:=s) (t:=t) (ft:=ft) (w:=w) h0 (by simp only[headB,CM.nm,h1,h2,h3,hR,Bool.and_true,Bool.true_and,Bool.and_false,Bool.false_and,Bool.or_true,Bool.true_or,Bool.or_false,Bool.false_or,Bool.not_true,Bool.not_false,Bool.false_eq_true,if_true,if_false,reduceIte];rfl)
                cases h17:(decide (((rfs rf).length:Int)≥1):Bool)with
                |true=>
                  cases h18:(w==0:Bool)with
                  |true=>
                    cases h19:(fitsB ft true:Bool)with
                    |true=>
                      rw[hV,show okI (bodyP rf w (fitsB ft true) 1 16 false)=0 from by simp only[body_L h0,rLB,h17,h18,h19,Bool.and_true,Bool.true_and,Bool.and_false,Bool.false_and,Bool.or_true,Bool.true_or,Bool.or_false,Bool.false_or,Bool.not_true,Bool.not_false,Bool.false_eq_true,if_true,if_false,reduceIte];rfl]
                      exact fi [na hge,nf,yt,ye (t:=decide (((rfs rf).length:Int)≥1)) h17,na (t:= !(w==0)) (by rw[h18];rfl),cl (hf true),na (t:= !(fitsB ft true)) (by rw[h19];rfl)] (by kernel_rfl) (by kernel_rfl)
                    |false=>
                      rw[hV,show okI (bodyP rf w (fitsB ft true) 1 16 false)=1 from by simp only[body_L h0,rLB,h17,h18,h19,Bool.and_true,Bool.true_and,Bool.and_false,Bool.false_and,Bool.or_true,Bool.true_or,Bool.or_false,Bool.false_or,Bool.not_true,Bool.not_false,Bool.false_eq_true,if_true,if_false,reduceIte];rfl]
                      exact fi [na hge,nf,yt,ye (t:=decide (((rfs rf).length:Int)≥1)) h17,na (t:= !(w==0)) (by rw[h18];rfl),cl (hf true),ye (t:= !(fitsB ft true)) (by rw[h19];rfl)] (by kernel_rfl) (by kernel_rfl)
                  |false=>
                    rw[hV,show okI (bodyP rf w (fitsB ft true) 1 16 false)=1 from by simp only[body_L h0,rLB,h17,h18,Bool.and_true,Bool.true_and,Bool.and_false,Bool.false_and,Bool.or_true,Bool.true_or,Bool.or_false,Bool.false_or,Bool.not_true,Bool.not_false,Bool.false_eq_true,if_true,if_false,reduceIte];rfl]
                    exact fi [na hge,nf,yt,ye (t:=decide (((rfs rf).length:Int)≥1)) h17,ye (t:= !(w==0)) (by rw[h18];rfl),yt] (by kernel_rfl) (by kernel_rfl)
                |false=>
                  rw[hV,show okI (bodyP rf w (fitsB ft true) 1 16 false)=1 from by simp only[body_L h0,rLB,h17,Bool.and_true,Bool.true_and,Bool.and_false,Bool.false_and,Bool.or_true,Bool.true_or,Bool.or_false,Bool.false_or,Bool.not_true,Bool.not_false,Bool.false_eq_true,if_true,if_false,reduceIte];rfl]
                  exact fi [na hge,nf,yt,na (t:=decide (((rfs rf).length:Int)≥1)) h17,yt,yt] (by kernel_rfl) (by kernel_rfl)
              · have hV:=v_2 (b:=b) (s:=s) (t:=t) (ft:=ft) (w:=w) h0 (by simp only[headB,CM.nm,h1,h2,h3,hR,Bool.and_true,Bool.true_and,Bool.and_false,Bool.false_and,Bool.or_true,Bool.true_or,Bool.or_false,Bool.false_or,Bool.not_true,Bool.not_false,Bool.false_eq_true,if_true,if_false,reduceIte];rfl)
                cases h20:(decide (((rfs rf).length:Int)≥2):Bool)with
                |true=>
                  cases h21:(w==0:Bool)with
                  |true=>
                    cases h22:(fitsB ft false:Bool)with
                    |true=>
                      rw[hV,show okI (bodyP rf w (fitsB ft false) 2 16 false)=0 from by simp only[body_L h0,rLB,h20,h21,h22,Bool.and_true,Bool.true_and,Bool.and_false,Bool.false_and,Bool.or_true,Bool.true_or,Bool.or_false,Bool.false_or,Bool.not_true,Bool.not_false,Bool.false_eq_true,if_true,if_false,reduceIte];rfl]
                      exact fi [na hge,nf,nf,yt,ye (t:=decide (((rfs rf).length:Int)≥2)) h20,na (t:= !(w==0)) (by rw[h21];rfl),cl (hf false),na (t:= !(fitsB ft false)) (by rw[h22];rfl)] (by kernel_rfl) (by kernel_rfl)
                    |false=>
                      rw[hV,show okI (bodyP rf w (fitsB ft false) 2 16 false)=1 from by simp only[body_L h0,rLB,h20,h21,h22,Bool.and_true,Bool.true_and,Bool.and_false,Bool.false_and,Bool.or_true,Bool.true_or,Bool.or_false,Bool.false_or,Bool.not_true,Bool.not_false,Bool.false_eq_true,if_true,if_false,reduceIte];rfl]
                      exact fi [na hge,nf,nf,yt,ye (t:=decide (((rfs rf).length:Int)≥2)) h20,na (t:= !(w==0)) (by rw[h21];rfl),cl (hf false),ye (t:= !(fitsB ft false)) (by rw[h22];rfl)] (by kernel_rfl) (by kernel_rfl)
                  |false=>
                    rw[hV,show okI (bodyP rf w (fitsB ft false) 2 16 false)=1 from by simp only[body_L h0,rLB,h20,h21,Bool.and_true,Bool.true_and,Bool.and_false,Bool.false_and,Bool.or_true,Bool.true_or,Bool.or_false,Bool.false_or,Bool.not_true,Bool.not_false,Bool.false_eq_true,if_true,if_false,reduceIte];rfl]
                    exact fi [na hge,nf,nf,yt,ye (t:=decide (((rfs rf).length:Int)≥2)) h20,ye (t:= !(w==0)) (by rw[h21];rfl),yt] (by kernel_rfl) (by kernel_rfl)
                |false=>
                  rw[hV,show okI (bodyP rf w (fitsB ft false) 2 16 false)=1 from by simp only[body_L h0,rLB,h20,Bool.and_true,Bool.true_and,Bool.and_false,Bool.false_and,Bool.or_true,Bool.true_or,Bool.or_false,Bool.false_or,Bool.not_true,Bool.not_false,Bool.false_eq_true,if_true,if_false,reduceIte];rfl]
                  exact fi [na hge,nf,nf,yt,na (t:=decide (((rfs rf).length:Int)≥2)) h20,yt,yt] (by kernel_rfl) (by kernel_rfl)
              · have hV:=v_3 (b:=b) (s:=s) (t:=t) (ft:=ft) (w:=w) h0 (by simp only[headB,CM.nm,h1,h2,h3,hR,Bool.and_true,Bool.true_and,Bool.and_false,Bool.false_and,Bool.or_true,Bool.true_or,Bool.or_false,Bool.false_or,Bool.not_true,Bool.not_false,Bool.false_eq_true,if_true,if_false,reduceIte];rfl)
                cases h23:(decide (((rfs rf).length:Int)≥1):Bool)with
                |true=>
                  cases h24:(w==0:Bool)with
                  |true=>
                    cases h25:(fitsB ft false:Bool)with
                    |true=>
                      rw[hV,show okI (bodyP rf w (fitsB ft false) 1 16 false)=0 from by simp only[body_L h0,rLB,h23,h24,h25,Bool.and_true,Bool.true_and,Bool.and_false,Bool.false_and,Bool.or_true,Bool.true_or,Bool.or_false,Bool.false_or,Bool.not_true,Bool.not_false,Bool.false_eq_true,if_true,if_false,reduceIte];rfl]
                      exact fi [na hge,nf,nf,nf,ye (t:=decide (((rfs rf).length:Int)≥1)) h23,na (t:= !(w==0)) (by rw[h24];rfl),cl (hf false),na (t:= !(fitsB ft false)) (by rw[h25];rfl)] (by kernel_rfl) (by kernel_rfl)
                    |false=>
                      rw[hV,show okI (bodyP rf w (fitsB ft false) 1 16 false)=1 from by simp only[body_L h0,rLB,h23,h24,h25,Bool.and_true,Bool.true_and,Bool.and_false,Bool.false_and,Bool.or_true,Bool.true_or,Bool.or_false,Bool.false_or,Bool.not_true,Bool.not_false,Bool.false_eq_true,if_true,if_false,reduceIte];rfl]
                      exact fi [na hge,nf,nf,nf,ye (t:=decide (((rfs rf).length:Int)≥1)) h23,na (t:= !(w==0)) (by rw[h24];rfl),cl (hf false),ye (t:= !(fitsB ft false)) (by rw[h25];rfl)] (by kernel_rfl) (by kernel_rfl)
                  |false=>
                    rw[hV,show okI (bodyP rf w (fitsB ft false) 1 16 false)=1 from by simp only[body_L h0,rLB,h23,h24,Bool.and_true,Bool.true_and,Bool.and_false,Bool.false_and,Bool.or_true,Bool.true_or,Bool.or_false,Bool.false_or,Bool.not_true,Bool.not_false,Bool.false_eq_true,if_true,if_false,reduceIte];rfl]
                    exact fi [na hge,nf,nf,nf,ye (t:=decide (((rfs rf).length:Int)≥1)) h23,ye (t:= !(w==0)) (by rw[h24];rfl),yt] (by kernel_rfl) (by kernel_rfl)
                |false=>
                  rw[hV,show okI (bodyP rf w (fitsB ft false) 1 16 false)=1 from by simp only[body_L h0,rLB,h23,Bool.and_true,Bool.true_and,Bool.and_false,Bool.false_and,Bool.or_true,Bool.true_or,Bool.or_false,Bool.false_or,Bool.not_true,Bool.not_false,Bool.false_eq_true,if_true,if_false,reduceIte];rfl]
                  exact fi [na hge,nf,nf,nf,na (t:=decide (((rfs rf).length:Int)≥1)) h23,yt,yt] (by kernel_rfl) (by kernel_rfl)
  |false=>
    rw[v_head h0 (by simp only[headB,CM.nm,h1,Bool.and_true,Bool.true_and,Bool.and_false,Bool.false_and,Bool.or_true,Bool.true_or,Bool.or_false,Bool.false_or,Bool.not_true,Bool.not_false,Bool.false_eq_true,if_true,if_false,reduceIte])]
    exact tr [na (t:=decide (((rfs rf).length:Int)>16)) h0,cl (e_poss6 (b,s)),ye (t:= !(possB (b,s))) (by rw[h1];rfl),yt,yt,yt,yt] (by kernel_rfl)
end
end Go.Proofs.YtfdfbenejkmnlaaGreatDoor.E.Ca
namespace Go.Proofs.YtfdfbenejkmnlaaGreatDoor.E.Ca
open Go.RowKit
set_option linter.unusedVariables false
set_option linter.unusedSimpArgs false
section
variable {n r:Int} {l:List Int} {at_i k:Nat}
/-- One of six turns. -/
def turnQ (r:Int):Rat×Rat:=if r=0 then(Rat.divInt 1 1,0)else if r=1 then(0,Rat.divInt 1 1)else if r=2 then(Rat.divInt (-1) 1,0)else if r=3 then(0,Rat.divInt (-1) 1)else if r=4 then(Rat.divInt 3 5,Rat.divInt 4 5)else(Rat.divInt (-5) 13,Rat.divInt 12 13)
theorem o4 {x y:Int} (hx: -100≤x∧x≤100) (hy: -100≤y∧y≤100):Pure PP 67 [ni x,ni y] (.ag (dR (Rat.divInt x y))):=e_of4 (i64 (by omega)) (i64 (by omega))
theorem e_turn (hn:W.Is64 n):Pure PP 87 [ni n] (.ag (dR (turnQ (rnd n 5)).1++dR (turnQ (rnd n 5)).2)):=by
 have ha:=e_around hn 5
 have hr:=rnd_in n 5
 generalize rnd n 5=r at ha hr
 have hc:r=0∨r=1∨r=2∨r=3∨r=4∨r=5:=by omega
 rcases hc with rfl|rfl|rfl|rfl|rfl|rfl
 · rw[show turnQ 0=(Rat.divInt 1 1,0)from rfl];dsimp only;rw[dR_0]
   exact tr [cl ha,yt,cl (o4 (x:=1) (y:=1) (by omega) (by omega))] (by kernel_rfl)
 · rw[show turnQ 1=(0,Rat.divInt 1 1)from rfl];dsimp only;rw[dR_0]
   exact tr [cl ha,nf,yt,cl (o4 (x:=1) (y:=1) (by omega) (by omega))] (by kernel_rfl)
 · rw[show turnQ 2=(Rat.divInt (-1) 1,0)from rfl];dsimp only;rw[dR_0]
   exact tr [cl ha,nf,nf,yt,cl (o4 (x:= -1) (y:=1) (by omega) (by omega))] (by kernel_rfl)
 · rw[show turnQ 3=(0,Rat.divInt (-1) 1)from rfl];dsimp only;rw[dR_0]
   exact tr [cl ha,nf,nf,nf,yt,cl (o4 (x:= -1) (y:=1) (by omega) (by omega))] (by kernel_rfl)
 · exact tr [cl ha,nf,nf,nf,nf,yt,cl (o4 (x:=3) (y:=5) (by omega) (by omega)),cl (o4 (x:=4) (y:=5) (by omega) (by omega))] (by kernel_rfl)
 · exact tr [cl ha,nf,nf,nf,nf,nf,cl (o4 (x:= -5) (y:=13) (by omega) (by omega)),cl (o4 (x:=12) (y:=13) (by omega) (by omega))] (by kernel_rfl)
def smK (n:Int):Nat:=(rnd n 1099511627775).toNat
def smJ (n:Int):Nat:=smK n % 6
def smP (n:Int):Int:=((smK n / 6 % (16*(smJ n+1)+1):Nat):Int) - ((8*(smJ n+1):Nat):Int)
def smallQ (n:Int):Rat:=Rat.divInt (smP n) ((smJ n+1:Nat):Int)
theorem sm_in (n:Int):rnd n 1099511627775=(smK n:Int)∧smJ n<6∧ -48≤smP n∧smP n≤48:=by
 have:=rnd_in n 1099511627775
 have hj:smJ n<6:=Nat.mod_lt _ (by omega)
 have h2:=Nat.mod_lt (smK n / 6) (show 0<16*(smJ n+1)+1 by omega)
 refine⟨by unfold smK;omega,hj, ?_⟩
 unfold smP
 omega
theorem e_small (hn:W.Is64 n):Pure PP 88 [ni n] (.ag (dR (smallQ n))):=by
 have ha:=e_around hn 1099511627775
 obtain⟨h1,h2,h3,h4⟩:=sm_in n
 have h5:smK n≤1099511627775:=by have:=rnd_in n 1099511627775;omega
 rw[h1]at ha
 exact tr [cl ha,.eqv 8 (ni ((smK n:Int).tmod 6)) (ni (smJ n:Int)) (by rw[show((6:Int))=((6:Nat):Int)from rfl,tmod_];rfl),wq 9 (1+(smJ n:Int)) ((smJ n+1:Nat):Int) (by omega),
   wq 11 ((smK n:Int).tdiv 6) ((smK n / 6:Nat):Int) ⟨rfl,by omega⟩,wq 13 (16*((smJ n+1:Nat):Int)) ((16*(smJ n+1):Nat):Int) (by omega),wq 14 (((16*(smJ n+1):Nat):Int)+1) ((16*(smJ n+1)+1:Nat):Int) (by omega),
   .eqv 15 (ni (((smK n / 6:Nat):Int).tmod ((16*(smJ n+1)+1:Nat):Int))) (ni ((smK n / 6 % (16*(smJ n+1)+1):Nat):Int)) (by rw[tmod_]),wq 17 (8*((smJ n+1:Nat):Int)) ((8*(smJ n+1):Nat):Int) (by omega),wq 18 (((smK n / 6 % (16*(smJ n+1)+1):Nat):Int) - ((8*(smJ n+1):Nat):Int)) (smP n) (by unfold smP at*;omega),cl (o4 (x:=smP n) (y:=((smJ n+1:Nat):Int)) (by omega) (by omega))] (by kernel_rfl)
theorem small_bits (n:Int):Bq 7 (smallQ n):=by
 obtain⟨h1,h2,h3,h4⟩:=sm_in n
 exact Bq.divInt (bd7 (by omega) (by omega)) (bd7 (by omega) (by omega)) (by omega)
/-- The generator's fit. -/
def fitQ (l:List Int) (i:Nat):FQ:=
 ⟨atz l i 2,atz l i 2+1+atz l (i+1) 1,atz l (i+2) 11,atz l (i+3) 11,1+atz l (i+4) 2,(turnQ (rnd (atz l (i+5) 5) 5)).1,(turnQ (rnd (atz l (i+5) 5) 5)).2,smallQ (atz l (i+6) 999),smallQ (atz l (i+7) 999),smallQ (atz l (i+6) 999)+Rat.divInt (atz l (i+8) 2) 2,smallQ (atz l (i+7) 999)⟩
noncomputable def at_n (t i k:Nat) (h:i+k<9000000000000000000):F_:=wq t ((i:Int)+(k:Int)) ((i+k:Nat):Int) (by omega)
theorem e_fit (hl:∀ x∈l,W.Is64 x) (i:Nat) (hi:i<1000000):Pure PP 55 [zl l,ni i] (.ag (dF (fitQ l i).fm)):=by
 have h0:=atz_in l i 2
 have h1:=atz_in l (i+1) 1
 have h4:=atz_in l (i+4) 2
 have h5:=atz_in l (i+5) 5
 have h6:=atz_in l (i+6) 999
 have h7:=atz_in l (i+7) 999
 have h8:=atz_in l (i+8) 2
 exact tr [cl (e_at hl i 2),wq 12 (atz l i 2+1) (atz l i 2+1) (by omega),at_n 15 i 1 (by omega),cl (e_at hl (i+1) 1),wq 17 (atz l i 2+1+atz l (i+1) 1) (atz l i 2+1+atz l (i+1) 1) (by omega),at_n 20 i 2 (by omega),cl (e_at hl (i+2) 11),at_n 24 i 3 (by omega),cl (e_at hl (i+3) 11),at_n 28 i 4 (by omega),cl (e_at hl (i+4) 2),wq 30 (1+atz l (i+4) 2) (1+atz l (i+4) 2) (by omega),at_n 33 i 5 (by omega),cl (e_at hl (i+5) 5),cl (e_turn (n:=atz l (i+5) 5) (i64 (by omega))),
   at_n 39 i 6 (by omega),cl (e_at hl (i+6) 999),cl (e_small (n:=atz l (i+6) 999) (i64 (by omega))),at_n 44 i 7 (by omega),cl (e_at hl (i+7) 999),cl (e_small (n:=atz l (i+7) 999) (i64 (by omega))),
   at_n 54 i 8 (by omega),cl (e_at hl (i+8) 2),cl (o4 (x:=atz l (i+8) 2) (y:=2) (by omega) (by omega)),cl (e_add4 (small_bits (atz l (i+6) 999)) (Bq.divInt (bd7 (x:=atz l (i+8) 2) (by omega) (by omega)) (bd7 (x:=2) (by omega) (by omega)) (by omega)) (by omega))] (by kernel_rfl)
/-- Nothing. -/
def rz:RN:=⟨false,[],false,[]⟩
def zF:FM:=⟨0,0,0,0,0,rz,rz,rz,rz,rz,rz⟩
theorem ofR_0:ofR 0=rz:=by
 unfold ofR rz
 rw[show(0:Rat).num=0 from rfl,dq_one (r:=(0:Rat)) rfl,show digs (0:Int).natAbs=[]from digs_z rfl]
 rfl
def zQ:FQ:=⟨0,0,0,0,0,0,0,0,0,0,0⟩
theorem zQ_fm:zQ.fm=zF:=by unfold zQ FQ.fm zF;rw[ofR_0]
end
end Go.Proofs.YtfdfbenejkmnlaaGreatDoor.E.Ca
namespace Go.Proofs.YtfdfbenejkmnlaaGreatDoor.E.Ca
open Go.RowKit
set_option linter.unusedVariables false
set_option linter.unusedSimpArgs false
def posN (o:List (Int×Int)) (n:Int×Int):Nat→Nat
 |0=>0
 |k+1=>if lessN n (o.getD k (0,0))=true then posN o n k else k+1
def insN (o:List (Int×Int)) (n:Int×Int):List (Int×Int):=o.take (posN o n o.length)++[n]++o.drop (posN o n o.length)
def bitB (bits:Int) (i:Nat):Bool:=(bits.fdiv (2 ^ min (IntKind.u64.wrap (i:Int)).toNat IntKind.i64.bits)).tmod 2==1
def refsF (L:List CM) (bits:Int):Nat→List (Int×Int)
 |0=>[]
 |i+1=>if bitB bits i=true then insN (refsF L bits i) (L.getD i ⟨0,0,0,0,[],zF,0⟩).nm else refsF L bits i
abbrev c0:CM:=⟨0,0,0,0,[],zF,0⟩
section
variable {L:List CM} {bits:Int} {i k:Nat} {o:List (Int×Int)} {n:Int×Int}
theorem posN_le:∀ k,posN o n k≤k
 |0=>Nat.le_refl _
 |k+1=>by
  unfold posN
  split
  · exact Nat.le_succ_of_le (posN_le k)
  · exact Nat.le_refl _
theorem insN_len:(insN o n).length=o.length+1:=by
 have:=posN_le (o:=o) (n:=n) o.length
 unfold insN
 simp
 omega
theorem refsF_len:∀ i,(refsF L bits i).length≤i
 |0=>Nat.le_refl _
 |i+1=>by
  have:=refsF_len i
  unfold refsF
  split
  · rw[insN_len];omega
  · omega
theorem nm_ok (o:List (Int×Int)):∀ cs∈rfs o,cs.length=2∧cs.all one=true:=fun cs h=>by
 obtain⟨a,_,rfl⟩:=List.mem_map.1 h
 exact⟨rfl,rfl⟩
theorem nm_len (o:List (Int×Int)):∀ cs∈rfs o,cs.length=2:=fun cs h=>(nm_ok o cs h).1
theorem rfs_len (o:List (Int×Int)):(rfs o).length=o.length:=List.length_map ..
theorem rfs_app (a b:List (Int×Int)):rfs a++rfs b=rfs (a++b):=List.map_append.symm
theorem getc {L:List CM} (h:i<L.length):L[i]? =some (L.getD i c0):=by rw[List.getD_eq_getElem?_getD,List.getElem?_eq_getElem h];rfl
theorem elC {L:List CM} (h:i<L.length):(L.map dC)[i]? =some (dC (L.getD i c0)):=sel_map (f:=dC) (getc h)
end
end Go.Proofs.YtfdfbenejkmnlaaGreatDoor.E.Ca
namespace Go.Proofs.YtfdfbenejkmnlaaGreatDoor.E.Ca
open Go.RowKit
set_option linter.unusedVariables false
set_option linter.unusedSimpArgs false
def byG (l:List Int) (i:Nat):Int:=atz l (5*i) 2
def kdG (l:List Int) (i:Nat):Int:=(atz l (5*i+1) 4).tmod 4
def seqG (L:List CM) (b:Int) (k:Nat):Nat:=((L.take k).filter fun c=>c.by_==b).length
def tkG (tick:Int) (l:List Int) (i:Nat):Int:=tick+1+atz l (5*i+2) 1
def bitsG (l:List Int) (i:Nat):Int:=1+atz l (5*i+3) 1023
def rfG (L:List CM) (l:List Int) (i:Nat):List (Int×Int):=refsF L (bitsG l i) L.length
/-- A claim of a kind. -/
def clG (l:List Int) (i:Nat) (b s t:Int) (rf:List (Int×Int)):Int→CM
 |0=>⟨b,s,t,0,[],zF,1+atz l (5*i+4) 8⟩
 |1=>⟨b,s,t,1,rf,(fitQ l (5*i+2)).fm,0⟩
 |k=>⟨b,s,t,k,rf,zF,0⟩
def kd2 (kd:Int) (rf:List (Int×Int)):Int:=if rf.length=0∨(kd=2∧rf.length<2)then 0 else kd
def stepG (l:List Int) (i:Nat) (x:List CM×Int):List CM×Int:=
 (x.1++[clG l i (byG l i) (seqG x.1 (byG l i) x.1.length) (tkG x.2 l i) (rfG x.1 l i) (kd2 (kdG l i) (rfG x.1 l i))],tkG x.2 l i)
def goodF (l:List Int):Nat→List CM×Int
 |0=>([],0)
 |i+1=>stepG l i (goodF l i)
def numG (l:List Int):Nat:=min 10 ((l.length+3) / 5)
def goodL (l:List Int):List CM:=(goodF l (numG l)).1
section
variable {l:List Int} {L:List CM} {i k:Nat} {tick:Int}
theorem good_len:∀ i,(goodF l i).1.length=i
 |0=>rfl
 |i+1=>by
  show((goodF l i).1++[_]).length=_
  rw[List.length_append,good_len i];rfl
theorem good_tick:∀ i,0≤(goodF l i).2∧(goodF l i).2≤2*i
 |0=>⟨Int.le_refl _,Int.le_refl _⟩
 |i+1=>by
  have h:=good_tick i
  have h2:=atz_in l (5*i+2) 1
  show 0≤tkG _ l i∧tkG _ l i≤_
  unfold tkG
  omega
theorem kdG_in (l:List Int) (i:Nat):kdG l i=0∨kdG l i=1∨kdG l i=2∨kdG l i=3:=by
 have h:=atz_in l (5*i+1) 4
 unfold kdG
 generalize atz l (5*i+1) 4=x at*
 have hx:x=0∨x=1∨x=2∨x=3∨x=4:=by omega
 rcases hx with rfl|rfl|rfl|rfl|rfl<;>decide
theorem seq_step (h:k<L.length) (b:Int):seqG L b (k+1)=if(L.getD k c0).by_==b then seqG L b k+1 else seqG L b k:=by
 unfold seqG
 rw[List.take_add_one,getc h]
 cases g:((L.getD k c0).by_==b)<;>simp only[Option.toList,List.filter_append,List.length_append,List.filter_cons,g,List.filter_nil]<;>simp
theorem seq_le (L:List CM) (b:Int) (k:Nat):seqG L b k≤k:=by
 unfold seqG
 exact Nat.le_trans (List.length_filter_le _ _) (by rw[List.length_take];omega)
theorem rf_k (o:List (Int×Int)):∀ cs∈rfs o,cs.all isK=true:=fun cs h=>by
 obtain⟨a,_,rfl⟩:=List.mem_map.1 h
 rfl
theorem dC_ok (L:List CM):∀ cs∈L.map dC,cs.length=35∧cs.all one=true:=fun cs h=>by
 obtain⟨a,_,rfl⟩:=List.mem_map.1 h
 exact⟨rfl,rfl⟩
noncomputable def m5 (t i:Nat) (h:i<1000):F_:=wq t (5*(i:Int)) ((5*i:Nat):Int) (by omega)
end
end Go.Proofs.YtfdfbenejkmnlaaGreatDoor.E.Ca
