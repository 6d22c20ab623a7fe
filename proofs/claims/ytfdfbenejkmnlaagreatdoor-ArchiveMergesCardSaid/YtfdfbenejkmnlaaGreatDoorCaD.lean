/-
 CLAIMS: Same, by the engine (printed by gen/cad.py).
-/
import Derived.Test.YtfdfbenejkmnlaaGreatDoorCaA
namespace Go.Proofs.YtfdfbenejkmnlaaGreatDoor.E.Ca
open Go.RowKit
set_option linter.unusedVariables false
set_option linter.unusedSimpArgs false
/-- A fit: its numbers, and its rational numbers as they are written. -/
structure FM where
 a:Int
 b:Int
 ea:Int
 eb:Int
 many:Int
 n0:RN
 n1:RN
 n2:RN
 n3:RN
 n4:RN
 n5:RN
structure CM where
 by_:Int
 seq:Int
 tick:Int
 kind:Int
 refs:List (Int×Int)
 fit:FM
 w:Int
def wh (f:FM):List Int:=[f.a,f.b,f.ea,f.eb,f.many]
def whV (f:FM):List V:=(wh f).map ni
def dF (f:FM):List V:=[ni f.a,ni f.b,ni f.ea,ni f.eb,ni f.many,bo f.n0.s,zl f.n0.l,bo f.n0.t,zl f.n0.m,bo f.n1.s,zl f.n1.l,bo f.n1.t,zl f.n1.m,bo f.n2.s,zl f.n2.l,bo f.n2.t,zl f.n2.m,bo f.n3.s,zl f.n3.l,bo f.n3.t,zl f.n3.m,bo f.n4.s,zl f.n4.l,bo f.n4.t,zl f.n4.m,bo f.n5.s,zl f.n5.l,bo f.n5.t,zl f.n5.m]
def nu (f:FM):List RN:=[f.n0,f.n1,f.n2,f.n3,f.n4,f.n5]
def rfs (l:List (Int×Int)):List (List V):=l.map nm
def dC (c:CM):List V:=[ni c.by_,ni c.seq,ni c.tick,ni c.kind,.sl (rfs c.refs),ni c.fit.a,ni c.fit.b,ni c.fit.ea,ni c.fit.eb,ni c.fit.many,bo c.fit.n0.s,zl c.fit.n0.l,bo c.fit.n0.t,zl c.fit.n0.m,bo c.fit.n1.s,zl c.fit.n1.l,bo c.fit.n1.t,zl c.fit.n1.m,bo c.fit.n2.s,zl c.fit.n2.l,bo c.fit.n2.t,zl c.fit.n2.m,bo c.fit.n3.s,zl c.fit.n3.l,bo c.fit.n3.t,zl c.fit.n3.m,bo c.fit.n4.s,zl c.fit.n4.l,bo c.fit.n4.t,zl c.fit.n4.m,bo c.fit.n5.s,zl c.fit.n5.l,bo c.fit.n5.t,zl c.fit.n5.m,ni c.w]
def CM.nm (c:CM):Int×Int:=(c.by_,c.seq)
section
variable {p q:Int×Int} {c d:CM} {f g:FM}
def possB (p:Int×Int):Bool:=decide (p.1≥0)&&decide (p.1<5)&&decide (p.2≥0)&&decide (p.2<200)
def possB6 (p:Int×Int):Bool:=decide (p.1≥0)&&decide (p.1≤4)&&decide (p.2≥0)&&decide (p.2≤199)
theorem poss6 (p:Int×Int):possB6 p=possB p:=by
 unfold possB6 possB
 rw[show decide (p.1≤4)=decide (p.1<5)from decide_eq_decide.2 (by omega),show decide (p.2≤199)=decide (p.2<200)from decide_eq_decide.2 (by omega)]
def lessN (p q:Int×Int):Bool:=decide (p.1<q.1)||(p.1==q.1&&decide (p.2<q.2))
def cmpC (c d:CM):Int:=orI (cI c.tick d.tick) (ordN c.nm d.nm)
def befB (c d:CM):Bool:=decide (cmpC c d<0)
def befB6 (c d:CM):Bool:=decide (c.tick<d.tick)||(c.tick==d.tick&&lessN c.nm d.nm)
theorem ord_neg (p q:Int×Int):decide (ordN p q<0)=lessN p q:=by
 unfold ordN lessN orI cI
 by_cases h1:p.1<q.1
 · simp[h1]
 · by_cases h2:q.1<p.1
   · have h3:¬p.1=q.1:=by omega
     simp[h1,h2,h3]
   · have h3:p.1=q.1:=by omega
     by_cases h4:p.2<q.2
     · simp[h3,h4]
     · by_cases h5:q.2<p.2<;>simp[h3,h4,h5]
theorem bef6 (c d:CM):befB6 c d=befB c d:=by
 unfold befB6 befB cmpC
 rw[←ord_neg]
 unfold orI cI
 by_cases h1:c.tick<d.tick
 · simp[h1]
 · by_cases h2:d.tick<c.tick
   · have h3:¬c.tick=d.tick:=by omega
     simp[h1,h2,h3]
   · have h3:c.tick=d.tick:=by omega
     simp[h3]
theorem e_name (c:CM):Pure PP 40 [.ag (dC c)] (.ag (nm c.nm)):=tr [] (by kernel_rfl)
theorem e_compare (c d:CM):Pure PP 45 [.ag (dC c),.ag (dC d)] (ni (cmpC c d)):=
 tr [cl (e_ccmp c.tick d.tick),cl (e_name c),cl (e_name d),cl (e_order c.nm d.nm),cl (e_or (cI c.tick d.tick) (ordN c.nm d.nm))] (by kernel_rfl)
theorem e_before (c d:CM):Pure PP 13 [.ag (dC c),.ag (dC d)] (bo (befB c d)):=tr [cl (e_compare c d)] (by kernel_rfl)
theorem e_whole (f:FM):Pure PP 75 [.ag (dF f)] (.ag (whV f)):=tr [] (by kernel_rfl)
def nuV (f:FM):List V:=cN f.n0++cN f.n1++cN f.n2++cN f.n3++cN f.n4++cN f.n5
theorem e_numbersC (f:FM):Pure PP 77 [.ag (dF f)] (.ag (nuV f)):=tr [] (by kernel_rfl)
theorem e_numbersC6 (f:FM):Pure PP 99 [.ag (dF f)] (.sl ((nu f).map cN)):=tr [] (by kernel_rfl)
theorem eqN (p q:Int×Int):EqA PP 54 (E.nm p) (E.nm q) (decide ([p.1,p.2]=[q.1,q.2])):=EqA.str (n:=2) (by kernel_rfl) (xs:=[p.1,p.2]) (ys:=[q.1,q.2]) rfl rfl
theorem eqW (f g:FM):EqA PP 125 (whV f) (whV g) (decide (wh f=wh g)):=EqA.arr (n:=5) (by kernel_rfl) rfl rfl
theorem nm_dec (p q:Int×Int):decide ([p.1,p.2]=[q.1,q.2])=decide (p=q):=decide_eq_decide.2 ⟨fun h=>by injection h with h1 h2;injection h2 with h2;exact Prod.ext h1 h2,fun h=>by rw[h]⟩
noncomputable def fEq (p q:Int×Int):F_:= .eqa 54 (nm p) (nm q) _ (nm_dec p q▸eqN p q)
noncomputable def wEq (f g:FM):F_:= .eqa 125 (whV f) (whV g) _ (eqW f g)
theorem e_poss (p:Int×Int):Pure PP 46 [.ag (nm p)] (bo (possB p)):=by
 cases h1:(decide (p.1≥0):Bool)with
 |true=>
   cases h2:(decide (p.1<5):Bool)with
   |true=>
     cases h3:(decide (p.2≥0):Bool)with
     |true=>
       rw[show possB p=(decide (p.2<200))from by simp only[possB,h1,h2,h3,Bool.and_true,Bool.true_and,Bool.and_false,Bool.false_and,Bool.or_true,Bool.true_or,Bool.or_false,Bool.false_or,Bool.not_true,Bool.not_false,Bool.false_eq_true,if_true,if_false,reduceIte]]
       exact tr [ye (t:=decide (p.1≥0)) h1,ye (t:=decide (p.1<5)) h2,ye (t:=decide (p.2≥0)) h3] (by kernel_rfl)
     |false=>
       rw[show possB p=false from by simp only[possB,h1,h2,h3,Bool.and_true,Bool.true_and,Bool.and_false,Bool.false_and,Bool.or_true,Bool.true_or,Bool.or_false,Bool.false_or,Bool.not_true,Bool.not_false,Bool.false_eq_true,if_true,if_false,reduceIte]]
       exact tr [ye (t:=decide (p.1≥0)) h1,ye (t:=decide (p.1<5)) h2,na (t:=decide (p.2≥0)) h3] (by kernel_rfl)
   |false=>
     rw[show possB p=false from by simp only[possB,h1,h2,Bool.and_true,Bool.true_and,Bool.and_false,Bool.false_and,Bool.or_true,Bool.true_or,Bool.or_false,Bool.false_or,Bool.not_true,Bool.not_false,Bool.false_eq_true,if_true,if_false,reduceIte]]
     exact tr [ye (t:=decide (p.1≥0)) h1,na (t:=decide (p.1<5)) h2,nf] (by kernel_rfl)
 |false=>
   rw[show possB p=false from by simp only[possB,h1,Bool.and_true,Bool.true_and,Bool.and_false,Bool.false_and,Bool.or_true,Bool.true_or,Bool.or_false,Bool.false_or,Bool.not_true,Bool.not_false,Bool.false_eq_true,if_true,if_false,reduceIte]]
   exact tr [na (t:=decide (p.1≥0)) h1,nf,nf] (by kernel_rfl)
theorem e_poss6 (p:Int×Int):Pure PP 102 [.ag (nm p)] (bo (possB p)):=by
 rw[←poss6]
 cases h4:(decide (p.1≥0):Bool)with
 |true=>
   cases h5:(decide (p.1≤4):Bool)with
   |true=>
     cases h6:(decide (p.2≥0):Bool)with
     |true=>
       rw[show possB6 p=(decide (p.2≤199))from by simp only[possB6,h4,h5,h6,Bool.and_true,Bool.true_and,Bool.and_false,Bool.false_and,Bool.or_true,Bool.true_or,Bool.or_false,Bool.false_or,Bool.not_true,Bool.not_false,Bool.false_eq_true,if_true,if_false,reduceIte]]
       exact tr [ye (t:=decide (p.1≥0)) h4,ye (t:=decide (p.1≤4)) h5,ye (t:=decide (p.2≥0)) h6] (by kernel_rfl)
     |false=>
       rw[show possB6 p=false from by simp only[possB6,h4,h5,h6,Bool.and_true,Bool.true_and,Bool.and_false,Bool.false_and,Bool.or_true,Bool.true_or,Bool.or_false,Bool.false_or,Bool.not_true,Bool.not_false,Bool.false_eq_true,if_true,if_false,reduceIte]]
       exact tr [ye (t:=decide (p.1≥0)) h4,ye (t:=decide (p.1≤4)) h5,na (t:=decide (p.2≥0)) h6] (by kernel_rfl)
   |false=>
     rw[show possB6 p=false from by simp only[possB6,h4,h5,Bool.and_true,Bool.true_and,Bool.and_false,Bool.false_and,Bool.or_true,Bool.true_or,Bool.or_false,Bool.false_or,Bool.not_true,Bool.not_false,Bool.false_eq_true,if_true,if_false,reduceIte]]
     exact tr [ye (t:=decide (p.1≥0)) h4,na (t:=decide (p.1≤4)) h5,nf] (by kernel_rfl)
 |false=>
   rw[show possB6 p=false from by simp only[possB6,h4,Bool.and_true,Bool.true_and,Bool.and_false,Bool.false_and,Bool.or_true,Bool.true_or,Bool.or_false,Bool.false_or,Bool.not_true,Bool.not_false,Bool.false_eq_true,if_true,if_false,reduceIte]]
   exact tr [na (t:=decide (p.1≥0)) h4,nf,nf] (by kernel_rfl)
theorem e_less6 (p q:Int×Int):Pure PP 101 [.ag (nm p),.ag (nm q)] (bo (lessN p q)):=by
 cases h7:(decide (p.1<q.1):Bool)with
 |true=>
   rw[show lessN p q=true from by simp only[lessN,h7,Bool.and_true,Bool.true_and,Bool.and_false,Bool.false_and,Bool.or_true,Bool.true_or,Bool.or_false,Bool.false_or,Bool.not_true,Bool.not_false,Bool.false_eq_true,if_true,if_false,reduceIte]]
   exact tr [ye (t:=decide (p.1<q.1)) h7] (by kernel_rfl)
 |false=>
   cases h8:(p.1==q.1:Bool)with
   |true=>
     rw[show lessN p q=(decide (p.2<q.2))from by simp only[lessN,h7,h8,Bool.and_true,Bool.true_and,Bool.and_false,Bool.false_and,Bool.or_true,Bool.true_or,Bool.or_false,Bool.false_or,Bool.not_true,Bool.not_false,Bool.false_eq_true,if_true,if_false,reduceIte]]
     exact tr [na (t:=decide (p.1<q.1)) h7,ye (t:=p.1==q.1) h8] (by kernel_rfl)
   |false=>
     rw[show lessN p q=false from by simp only[lessN,h7,h8,Bool.and_true,Bool.true_and,Bool.and_false,Bool.false_and,Bool.or_true,Bool.true_or,Bool.or_false,Bool.false_or,Bool.not_true,Bool.not_false,Bool.false_eq_true,if_true,if_false,reduceIte]]
     exact tr [na (t:=decide (p.1<q.1)) h7,na (t:=p.1==q.1) h8] (by kernel_rfl)
theorem e_before6 (c d:CM):Pure PP 65 [.ag (dC c),.ag (dC d)] (bo (befB c d)):=by
 rw[←bef6]
 cases h9:(decide (c.tick<d.tick):Bool)with
 |true=>
   rw[show befB6 c d=true from by simp only[befB6,h9,Bool.and_true,Bool.true_and,Bool.and_false,Bool.false_and,Bool.or_true,Bool.true_or,Bool.or_false,Bool.false_or,Bool.not_true,Bool.not_false,Bool.false_eq_true,if_true,if_false,reduceIte]]
   exact tr [ye (t:=decide (c.tick<d.tick)) h9] (by kernel_rfl)
 |false=>
   cases h10:(c.tick==d.tick:Bool)with
   |true=>
     rw[show befB6 c d=(lessN c.nm d.nm)from by simp only[befB6,h9,h10,Bool.and_true,Bool.true_and,Bool.and_false,Bool.false_and,Bool.or_true,Bool.true_or,Bool.or_false,Bool.false_or,Bool.not_true,Bool.not_false,Bool.false_eq_true,if_true,if_false,reduceIte]]
     exact tr [na (t:=decide (c.tick<d.tick)) h9,ye (t:=c.tick==d.tick) h10,cl (e_less6 c.nm d.nm)] (by kernel_rfl)
   |false=>
     rw[show befB6 c d=false from by simp only[befB6,h9,h10,Bool.and_true,Bool.true_and,Bool.and_false,Bool.false_and,Bool.or_true,Bool.true_or,Bool.or_false,Bool.false_or,Bool.not_true,Bool.not_false,Bool.false_eq_true,if_true,if_false,reduceIte]]
     exact tr [na (t:=decide (c.tick<d.tick)) h9,na (t:=c.tick==d.tick) h10] (by kernel_rfl)
end
end Go.Proofs.YtfdfbenejkmnlaaGreatDoor.E.Ca
namespace Go.Proofs.YtfdfbenejkmnlaaGreatDoor.E.Ca
open Go.RowKit
set_option linter.unusedVariables false
set_option linter.unusedSimpArgs false
section
variable {α:Type}
theorem get_of {l:List α} {i:Nat} (h:i<l.length):∃ a,l[i]? =some a∧a∈l:=⟨l[i],List.getElem?_eq_getElem h,List.getElem_mem h⟩
theorem take_step {l m:List α} {i:Nat} {a b:α} (h:l.take i=m.take i) (ha:l[i]? =some a) (hb:m[i]? =some b) (e:a=b):l.take (i+1)=m.take (i+1):=by
 rw[List.take_add_one,List.take_add_one,h,ha,hb,e]
theorem eq_of_take {l m:List α} {i:Nat} (h:l.take i=m.take i) (hi:¬i<l.length) (hl:l.length=m.length):l=m:=by
 rwa [List.take_of_length_le (by omega),List.take_of_length_le (by omega)]at h
theorem ne_at {l m:List α} {i:Nat} {a b:α} (ha:l[i]? =some a) (hb:m[i]? =some b) (e:a≠b):l≠m:=fun h=>by
 subst h
 rw[ha]at hb
 injection hb with hb
 exact e hb
/-- The first that is so, or -1. -/
def fidx (bad:α→Bool) (l:List α):Int:=match l.findIdx? bad with
 |some i=>i
 |none=> -1
theorem fidx_at {bad:α→Bool} {l:List α} {i:Nat} {a:α} (h:∀ t b,t<i→l[t]? =some b→bad b=false) (ha:l[i]? =some a) (hb:bad a=true):fidx bad l=i:=by
 have hi:=(List.getElem?_eq_some_iff.1 ha).1
 have:l.findIdx? bad=some i:=by
  rw[List.findIdx?_eq_some_iff_getElem]
  refine⟨hi, ?_,fun j hj=> ?_⟩
  · have:=(List.getElem?_eq_some_iff.1 ha).2;rw[this];exact hb
  · have:=h j _ hj (List.getElem?_eq_getElem (by omega));simp[this]
 unfold fidx
 rw[this]
theorem fidx_no {bad:α→Bool} {l:List α} {i:Nat} (h:∀ t b,t<i→l[t]? =some b→bad b=false) (hi:¬i<l.length):fidx bad l= -1:=by
 have:l.findIdx? bad=none:=by
  rw[List.findIdx?_eq_none_iff]
  intro x hx
  obtain⟨t,ht⟩:=List.getElem?_of_mem hx
  exact h t x (by have:=(List.getElem?_eq_some_iff.1 ht).1;omega) ht
 unfold fidx
 rw[this]
theorem fidx_any (bad:α→Bool) (l:List α):decide (fidx bad l≥0)=l.any bad:=by
 unfold fidx
 cases h:l.findIdx? bad with
 |none=>
  rw[List.findIdx?_eq_none_iff]at h
  rw[List.any_eq_false.2 fun x hx=>by simp[h x hx]]
  rfl
 |some i=>
  rw[List.findIdx?_eq_some_iff_getElem]at h
  obtain⟨h1,h2,_⟩:=h
  rw[List.any_eq_true.2 ⟨_,List.getElem_mem h1,h2⟩]
  simp
theorem no_step {bad:α→Bool} {l:List α} {i:Nat} {a:α} (h:∀ t b,t<i→l[t]? =some b→bad b=false) (ha:l[i]? =some a) (hb:bad a=false):∀ t b,t<i+1→l[t]? =some b→bad b=false:=fun t b ht e=>by
 by_cases g:t=i
 · subst g;rw[ha]at e;injection e with e;rw[←e];exact hb
 · exact h t b (by omega) e
theorem no_zero {bad:α→Bool} {l:List α}:∀ t b,t<0→l[t]? =some b→bad b=false:=fun t b h=>absurd h (Nat.not_lt_zero t)
end
abbrev ci (x:Int):List V:=[ni x]
noncomputable abbrev fe_eqInts:Func:=fnOf PP 168
theorem e_eqInts (l m:List Int):Pure PP 168 [.sl (l.map ci),.sl (m.map ci)] (bo (decide (l=m))):=by
 refine .len 0 (l:=l.map ci) (by kernel_rfl) rfl fun hm=> ?_
 rw[List.length_map]at hm
 unfold maxLen at hm
 by_cases hl:l.length=m.length
 · let X : Nat → St := fun i => at_ fe_eqInts [(0, .sl (l.map ci)), (1, .sl (m.map ci)), (12, ni ((l.map ci).length : Int)), (13, ni i)] []
   refine pf (by kernel_rfl) (.to mo_ [] [0,1,12,13] [] 0 [na (t:=((l.map ci).length:Int) != ((m.map ci).length:Int)) (by simp[hl])] (td':=lp fe_eqInts 0) (σ':=X 0) ?_ (by kernel_rfl))
   refine Gd.loop X (fun i=>i≤l.length∧l.take i=m.take i) (fun i=>l.length - i) ?_ 0 ⟨Nat.zero_le _,rfl⟩
   intro i ⟨hi,hI⟩ ih
   by_cases h:i<l.length
   · obtain⟨a,ha,_⟩:=get_of h
     obtain⟨b,hb,_⟩:=get_of (l:=m) (i:=i) (by omega)
     have hlt:decide ((i:Int)<((l.map ci).length:Int))=true:=decide_eq_true (by rw[List.length_map];omega)
     by_cases e:a=b
     · exact .to mo_ [] [0,1,12,13] [] 0 ([ye hlt,.sel _ _ _ (sel_map (f:=ci) ha),.sel _ _ _ (sel_map (f:=ci) hb)]++[na (t:=a != b) (by simp[e]),inc 25 i (by omega)]) (ih (i+1) ⟨h,take_step hI ha hb e⟩ (by omega)) (by kernel_rfl)
     · rw[show decide (l=m)=false from decide_eq_false (ne_at ha hb e)]
       exact fi ([ye hlt,.sel _ _ _ (sel_map (f:=ci) ha),.sel _ _ _ (sel_map (f:=ci) hb)]++[ye (t:=a != b) (by simp[e])]) (by kernel_rfl) (by kernel_rfl)
   · rw[show decide (l=m)=true from decide_eq_true (eq_of_take hI h hl)]
     exact fi [na (t:=decide ((i:Int)<((l.map ci).length:Int))) (decide_eq_false (by rw[List.length_map];omega))] (by kernel_rfl) (by kernel_rfl)
 · rw[show decide (l=m)=false from decide_eq_false fun e=>hl (by rw[e])]
   exact tr [ye (t:=((l.map ci).length:Int) != ((m.map ci).length:Int)) (by simp;omega)] (by kernel_rfl)
noncomputable abbrev fe_eqNames:Func:=fnOf PP 141
theorem e_eqNames (l m:List (Int×Int)):Pure PP 141 [.sl (l.map nm),.sl (m.map nm)] (bo (decide (l=m))):=by
 refine .len 0 (l:=l.map nm) (by kernel_rfl) rfl fun hm=> ?_
 rw[List.length_map]at hm
 unfold maxLen at hm
 by_cases hl:l.length=m.length
 · let X : Nat → St := fun i => at_ fe_eqNames [(0, .sl (l.map nm)), (1, .sl (m.map nm)), (12, ni ((l.map nm).length : Int)), (13, ni i)] []
   refine pf (by kernel_rfl) (.to mo_ [] [0,1,12,13] [] 0 [na (t:=((l.map nm).length:Int) != ((m.map nm).length:Int)) (by simp[hl])] (td':=lp fe_eqNames 0) (σ':=X 0) ?_ (by kernel_rfl))
   refine Gd.loop X (fun i=>i≤l.length∧l.take i=m.take i) (fun i=>l.length - i) ?_ 0 ⟨Nat.zero_le _,rfl⟩
   intro i ⟨hi,hI⟩ ih
   by_cases h:i<l.length
   · obtain⟨a,ha,_⟩:=get_of h
     obtain⟨b,hb,_⟩:=get_of (l:=m) (i:=i) (by omega)
     have hlt:decide ((i:Int)<((l.map nm).length:Int))=true:=decide_eq_true (by rw[List.length_map];omega)
     by_cases e:a=b
     · exact .to mo_ [] [0,1,12,13] [] 0 ([ye hlt,.sel _ _ _ (sel_map (f:=nm) ha),.sel _ _ _ (sel_map (f:=nm) hb)]++[fEq a b,na (t:= !(decide (a=b))) (by simp[e]),inc 25 i (by omega)]) (ih (i+1) ⟨h,take_step hI ha hb e⟩ (by omega)) (by kernel_rfl)
     · rw[show decide (l=m)=false from decide_eq_false (ne_at ha hb e)]
       exact fi ([ye hlt,.sel _ _ _ (sel_map (f:=nm) ha),.sel _ _ _ (sel_map (f:=nm) hb)]++[fEq a b,ye (t:= !(decide (a=b))) (by simp[e])]) (by kernel_rfl) (by kernel_rfl)
   · rw[show decide (l=m)=true from decide_eq_true (eq_of_take hI h hl)]
     exact fi [na (t:=decide ((i:Int)<((l.map nm).length:Int))) (decide_eq_false (by rw[List.length_map];omega))] (by kernel_rfl) (by kernel_rfl)
 · rw[show decide (l=m)=false from decide_eq_false fun e=>hl (by rw[e])]
   exact tr [ye (t:=((l.map nm).length:Int) != ((m.map nm).length:Int)) (by simp;omega)] (by kernel_rfl)
theorem e_sameR1 (x y:Int):Pure PP 167 [.ag (dI x),.ag (dI y)] (bo (decide (x=y))):=by
 have hd : decide (x = y) = ((decide (x < 0) == decide (y < 0)) && decide (digs x.natAbs = digs y.natAbs)) := by
  by_cases h:x=y
  · subst h;simp
  · rw [decide_eq_false h]
    by_cases h1:digs x.natAbs=digs y.natAbs
    · have h2:(x.natAbs:Int)=y.natAbs:=by rw[←(digs_ok x.natAbs).2,←(digs_ok y.natAbs).2,h1]
      have h3:(decide (x<0)==decide (y<0))=false:=by
       rw[beq_eq_false_iff_ne]
       intro e
       have:=decide_eq_decide.1 e
       omega
      rw[h3];rfl
    · rw[decide_eq_false h1,Bool.and_false]
 rw[hd]
 cases h:(decide (x<0)==decide (y<0))with
 |true=>exact tr [ye (t:=decide (x<0)==decide (y<0)) h,cl (e_eqInts (digs x.natAbs) (digs y.natAbs))] (by kernel_rfl)
 |false=>exact tr [na (t:=decide (x<0)==decide (y<0)) h] (by kernel_rfl)
theorem e_rsame (r t:Rat):Pure PP 126 [.ag (dR r),.ag (dR t)] (bo (decide (r=t))):=by
 by_cases h:r.num=t.num
 · rw[show decide (r=t)=decide (dq r=dq t)from decide_eq_decide.2 ⟨fun e=>by rw[e],dq_inj h⟩]
   exact tr [cl (e_sameR1 r.num t.num),ye (decide_eq_true h),cl (e_sameR1 (dq r) (dq t))] (by kernel_rfl)
 · rw[show decide (r=t)=false from decide_eq_false fun e=>h (by rw[e])]
   exact tr [cl (e_sameR1 r.num t.num),na (decide_eq_false h)] (by kernel_rfl)
noncomputable abbrev feqf:Func:=fnOf PP 142
theorem e_eqRats (l m:List Rat) (hl:l.length=m.length) (hm:l.length≤1000):Pure PP 142 [.sl (l.map dR),.sl (m.map dR),.cl 126 []] (bo (decide (l=m))):=by
 let X:Nat→St:=fun i=>at_ feqf [(1,.sl (m.map dR)),(2,.cl 126 []),(15,.sl (l.map dR)),(16,ni ((l.map dR).length:Int)),(17,ni i)] []
 refine pf (by kernel_rfl) (.to mo_ [] [1,2,15,16,17] [] 0 [na (t:=((l.map dR).length:Int) != ((m.map dR).length:Int)) (by simp[hl])] (td':=lp feqf 0) (σ':=X 0) ?_ (by kernel_rfl))
 refine Gd.loop X (fun i=>i≤l.length∧l.take i=m.take i) (fun i=>l.length - i) ?_ 0 ⟨Nat.zero_le _,rfl⟩
 intro i ⟨hi,hI⟩ ih
 by_cases h:i<l.length
 · obtain⟨a,ha,_⟩:=get_of h
   obtain⟨b,hb,_⟩:=get_of (l:=m) (i:=i) (by omega)
   have hlt:decide ((i:Int)<((l.map dR).length:Int))=true:=decide_eq_true (by rw[List.length_map];omega)
   by_cases e:a=b
   · exact .to mo_ [] [1,2,15,16,17] [] 0 [ye hlt,.sel _ _ _ (sel_map (f:=dR) ha),.sel _ _ _ (sel_map (f:=dR) hb),cl (e_rsame a b),na (t:= !(decide (a=b))) (by simp[e]),inc 31 i (by omega)] (ih (i+1) ⟨h,take_step hI ha hb e⟩ (by omega)) (by kernel_rfl)
   · rw[show decide (l=m)=false from decide_eq_false (ne_at ha hb e)]
     exact fi [ye hlt,.sel _ _ _ (sel_map (f:=dR) ha),.sel _ _ _ (sel_map (f:=dR) hb),cl (e_rsame a b),ye (t:= !(decide (a=b))) (by simp[e])] (by kernel_rfl) (by kernel_rfl)
 · rw[show decide (l=m)=true from decide_eq_true (eq_of_take hI h hl)]
   exact fi [na (t:=decide ((i:Int)<((l.map dR).length:Int))) (decide_eq_false (by rw[List.length_map];omega))] (by kernel_rfl) (by kernel_rfl)
noncomputable abbrev fe_idxR:Func:=fnOf PP 121
theorem e_idxR {G:FuncId} {c0:List V} {bad:RN→Bool} (L:List RN) (hc:∀ a∈L,Pure PP G [.ag (cN a),.ip c0] (bo (bad a))):Pure PP 121 [.sl (L.map cN),.cl G [.ip c0]] (ni (fidx bad L)):=by
 refine .len 0 (l:=L.map cN) (by kernel_rfl) rfl fun hm=> ?_
 rw[List.length_map]at hm
 unfold maxLen at hm
 let X:Nat→St:=fun i=>at_ fe_idxR [(0,.sl (L.map cN)),(1,.cl G [.ip c0]),(7,ni ((L.map cN).length:Int)),(8,ni i)] []
 refine pf (by kernel_rfl) (.to mo_ [] [0,1,7,8] [] 0 [] (td':=lp fe_idxR 0) (σ':=X 0) ?_ (by kernel_rfl))
 refine Gd.loop X (fun i=>i≤L.length∧∀ t b,t<i→L[t]? =some b→bad b=false) (fun i=>L.length - i) ?_ 0 ⟨Nat.zero_le _,no_zero⟩
 intro i ⟨hi,hI⟩ ih
 by_cases h:i<L.length
 · obtain⟨a,ha,hma⟩:=get_of h
   have hlt:decide ((i:Int)<((L.map cN).length:Int))=true:=decide_eq_true (by rw[List.length_map];omega)
   have hcc:=hc a hma
   cases hb:bad a with
   |true=>
     rw[hb]at hcc
     rw[fidx_at hI ha hb]
     exact fi [ye hlt,.sel _ _ _ (sel_map (f:=cN) ha),cl hcc,yt] (by kernel_rfl) (by kernel_rfl)
   |false=>
     rw[hb]at hcc
     exact .to mo_ [] [0,1,7,8] [] 0 [ye hlt,.sel _ _ _ (sel_map (f:=cN) ha),cl hcc,nf,inc 18 i (by omega)] (ih (i+1) ⟨h,no_step hI ha hb⟩ (by omega)) (by kernel_rfl)
 · rw[fidx_no hI h]
   exact fi [na (t:=decide ((i:Int)<((L.map cN).length:Int))) (decide_eq_false (by rw[List.length_map];omega))] (by kernel_rfl) (by kernel_rfl)
theorem e_idxRC {G:FuncId} {c0:List V} {bad:RN→Bool} (L:List RN) (hc:∀ a∈L,Pure PP G [.ag (cN a),.ip c0] (bo (bad a))):Pure PP 79 [.sl (L.map cN),.cl G [.ip c0]] (bo (L.any bad)):=by
 rw[←fidx_any]
 exact tr [cl (e_idxR L hc)] (by kernel_rfl)
noncomputable abbrev fe_idxC:Func:=fnOf PP 49
theorem e_idxC {G:FuncId} {c0:List V} {bad:CM→Bool} (L:List CM) (hc:∀ a∈L,Pure PP G [.ag (dC a),.ip c0] (bo (bad a))):Pure PP 49 [.sl (L.map dC),.cl G [.ip c0]] (ni (fidx bad L)):=by
 refine .len 0 (l:=L.map dC) (by kernel_rfl) rfl fun hm=> ?_
 rw[List.length_map]at hm
 unfold maxLen at hm
 let X:Nat→St:=fun i=>at_ fe_idxC [(0,.sl (L.map dC)),(1,.cl G [.ip c0]),(7,ni ((L.map dC).length:Int)),(8,ni i)] []
 refine pf (by kernel_rfl) (.to mo_ [] [0,1,7,8] [] 0 [] (td':=lp fe_idxC 0) (σ':=X 0) ?_ (by kernel_rfl))
 refine Gd.loop X (fun i=>i≤L.length∧∀ t b,t<i→L[t]? =some b→bad b=false) (fun i=>L.length - i) ?_ 0 ⟨Nat.zero_le _,no_zero⟩
 intro i ⟨hi,hI⟩ ih
 by_cases h:i<L.length
 · obtain⟨a,ha,hma⟩:=get_of h
   have hlt:decide ((i:Int)<((L.map dC).length:Int))=true:=decide_eq_true (by rw[List.length_map];omega)
   have hcc:=hc a hma
   cases hb:bad a with
   |true=>
     rw[hb]at hcc
     rw[fidx_at hI ha hb]
     exact fi [ye hlt,.sel _ _ _ (sel_map (f:=dC) ha),cl hcc,yt] (by kernel_rfl) (by kernel_rfl)
   |false=>
     rw[hb]at hcc
     exact .to mo_ [] [0,1,7,8] [] 0 [ye hlt,.sel _ _ _ (sel_map (f:=dC) ha),cl hcc,nf,inc 18 i (by omega)] (ih (i+1) ⟨h,no_step hI ha hb⟩ (by omega)) (by kernel_rfl)
 · rw[fidx_no hI h]
   exact fi [na (t:=decide ((i:Int)<((L.map dC).length:Int))) (decide_eq_false (by rw[List.length_map];omega))] (by kernel_rfl) (by kernel_rfl)
end Go.Proofs.YtfdfbenejkmnlaaGreatDoor.E.Ca
namespace Go.Proofs.YtfdfbenejkmnlaaGreatDoor.E.Ca
open Go.RowKit
set_option linter.unusedVariables false
set_option linter.unusedSimpArgs false
/-- A fit whose rational numbers are such. -/
structure FQ where
 a:Int
 b:Int
 ea:Int
 eb:Int
 many:Int
 r0:Rat
 r1:Rat
 r2:Rat
 r3:Rat
 r4:Rat
 r5:Rat
structure CQ where
 by_:Int
 seq:Int
 tick:Int
 kind:Int
 refs:List (Int×Int)
 fit:FQ
 w:Int
def FQ.fm (f:FQ):FM:=⟨f.a,f.b,f.ea,f.eb,f.many,ofR f.r0,ofR f.r1,ofR f.r2,ofR f.r3,ofR f.r4,ofR f.r5⟩
def CQ.cm (c:CQ):CM:=⟨c.by_,c.seq,c.tick,c.kind,c.refs,c.fit.fm,c.w⟩
def FQ.qs (f:FQ):List Rat:=[f.r0,f.r1,f.r2,f.r3,f.r4,f.r5]
def FQ.wh (f:FQ):List Int:=[f.a,f.b,f.ea,f.eb,f.many]
def dQ (c:CQ):List V:=dC c.cm
def fP (f g:FQ):Prop:=f.wh=g.wh∧f.qs=g.qs
def eqP (c d:CQ):Prop:=c.by_=d.by_∧c.seq=d.seq∧c.tick=d.tick∧c.kind=d.kind∧c.w=d.w∧c.refs=d.refs∧fP c.fit d.fit
instance (f g:FQ):Decidable (fP f g):=by unfold fP;infer_instance
instance (c d:CQ):Decidable (eqP c d):=by unfold eqP;infer_instance
section
variable {c d:CQ} {f g:FQ}
theorem e_csame (c d:CQ):Pure PP 94 [.ag (dQ c),.ag (dQ d)] (bo (decide (eqP c d))):=by
 cases h1:(decide (c.cm.nm=d.cm.nm):Bool)with
 | true =>
   cases h2:(c.tick==d.tick:Bool)with
   | true =>
     cases h3:(c.kind==d.kind:Bool)with
     | true =>
       cases h4:(c.w==d.w:Bool)with
       |true=>
         cases h5:(decide (c.refs=d.refs):Bool)with
         |true=>
           cases h6:(decide (wh c.fit.fm=wh d.fit.fm):Bool)with
           |true=>
             rw[show decide (eqP c d)=decide (c.fit.qs=d.fit.qs)from decide_eq_decide.2 ⟨fun e=>e.2.2.2.2.2.2.2,fun e=>by simp[CQ.cm,CM.nm,FQ.fm,wh]at h1 h2 h3 h4 h5 h6;exact⟨by simp_all,by simp_all,by simp_all,by simp_all,by simp_all,by simp_all,by rw[FQ.wh,FQ.wh];simp_all,e⟩⟩]
             exact tr [cl (e_numbersC c.fit.fm),cl (e_numbersC d.fit.fm),cl (e_name c.cm),cl (e_name d.cm),fEq c.cm.nm d.cm.nm,ye (t:=decide (c.cm.nm=d.cm.nm)) h1,ye (t:=c.tick==d.tick) h2,ye (t:=c.kind==d.kind) h3,ye (t:=c.w==d.w) h4,cl (e_eqNames c.refs d.refs),ye (t:=decide (c.refs=d.refs)) h5,cl (e_whole c.fit.fm),cl (e_whole d.fit.fm),wEq c.fit.fm d.fit.fm,ye (t:=decide (wh c.fit.fm=wh d.fit.fm)) h6,.arr,.arr,cl (e_eqRats c.fit.qs d.fit.qs rfl (by show 6≤1000;decide))] (by kernel_rfl)
           |false=>
             rw[show decide (eqP c d)=false from decide_eq_false fun e=>by obtain⟨e1,e2,e3,e4,e5,e6,e7,e8⟩:=e;simp[CQ.cm,CM.nm,FQ.fm,wh,FQ.wh,e1,e2,e3,e4,e5,e6,e7,e8]at h6;try (rw[FQ.wh,FQ.wh]at e7;simp_all)]
             exact tr [cl (e_numbersC c.fit.fm),cl (e_numbersC d.fit.fm),cl (e_name c.cm),cl (e_name d.cm),fEq c.cm.nm d.cm.nm,ye (t:=decide (c.cm.nm=d.cm.nm)) h1,ye (t:=c.tick==d.tick) h2,ye (t:=c.kind==d.kind) h3,ye (t:=c.w==d.w) h4,cl (e_eqNames c.refs d.refs),ye (t:=decide (c.refs=d.refs)) h5,cl (e_whole c.fit.fm),cl (e_whole d.fit.fm),wEq c.fit.fm d.fit.fm,na (t:=decide (wh c.fit.fm=wh d.fit.fm)) h6] (by kernel_rfl)
         |false=>
           rw[show decide (eqP c d)=false from decide_eq_false fun e=>by obtain⟨e1,e2,e3,e4,e5,e6,e7,e8⟩:=e;simp[CQ.cm,CM.nm,FQ.fm,wh,FQ.wh,e1,e2,e3,e4,e5,e6,e7,e8]at h5;try (rw[FQ.wh,FQ.wh]at e7;simp_all)]
           exact tr [cl (e_numbersC c.fit.fm),cl (e_numbersC d.fit.fm),cl (e_name c.cm),cl (e_name d.cm),fEq c.cm.nm d.cm.nm,ye (t:=decide (c.cm.nm=d.cm.nm)) h1,ye (t:=c.tick==d.tick) h2,ye (t:=c.kind==d.kind) h3,ye (t:=c.w==d.w) h4,cl (e_eqNames c.refs d.refs),na (t:=decide (c.refs=d.refs)) h5,nf] (by kernel_rfl)
       |false=>
         rw[show decide (eqP c d)=false from decide_eq_false fun e=>by obtain⟨e1,e2,e3,e4,e5,e6,e7,e8⟩:=e;simp[CQ.cm,CM.nm,FQ.fm,wh,FQ.wh,e1,e2,e3,e4,e5,e6,e7,e8]at h4;try (rw[FQ.wh,FQ.wh]at e7;simp_all)]
         exact tr [cl (e_numbersC c.fit.fm),cl (e_numbersC d.fit.fm),cl (e_name c.cm),cl (e_name d.cm),fEq c.cm.nm d.cm.nm,ye (t:=decide (c.cm.nm=d.cm.nm)) h1,ye (t:=c.tick==d.tick) h2,ye (t:=c.kind==d.kind) h3,na (t:=c.w==d.w) h4,nf,nf] (by kernel_rfl)
     |false=>
       rw[show decide (eqP c d)=false from decide_eq_false fun e=>by obtain⟨e1,e2,e3,e4,e5,e6,e7,e8⟩:=e;simp[CQ.cm,CM.nm,FQ.fm,wh,FQ.wh,e1,e2,e3,e4,e5,e6,e7,e8]at h3;try (rw[FQ.wh,FQ.wh]at e7;simp_all)]
       exact tr [cl (e_numbersC c.fit.fm),cl (e_numbersC d.fit.fm),cl (e_name c.cm),cl (e_name d.cm),fEq c.cm.nm d.cm.nm,ye (t:=decide (c.cm.nm=d.cm.nm)) h1,ye (t:=c.tick==d.tick) h2,na (t:=c.kind==d.kind) h3,nf,nf,nf] (by kernel_rfl)
   |false=>
     rw[show decide (eqP c d)=false from decide_eq_false fun e=>by obtain⟨e1,e2,e3,e4,e5,e6,e7,e8⟩:=e;simp[CQ.cm,CM.nm,FQ.fm,wh,FQ.wh,e1,e2,e3,e4,e5,e6,e7,e8]at h2;try (rw[FQ.wh,FQ.wh]at e7;simp_all)]
     exact tr [cl (e_numbersC c.fit.fm),cl (e_numbersC d.fit.fm),cl (e_name c.cm),cl (e_name d.cm),fEq c.cm.nm d.cm.nm,ye (t:=decide (c.cm.nm=d.cm.nm)) h1,na (t:=c.tick==d.tick) h2,nf,nf,nf,nf] (by kernel_rfl)
 |false=>
   rw[show decide (eqP c d)=false from decide_eq_false fun e=>by obtain⟨e1,e2,e3,e4,e5,e6,e7,e8⟩:=e;simp[CQ.cm,CM.nm,FQ.fm,wh,FQ.wh,e1,e2,e3,e4,e5,e6,e7,e8]at h1;try (rw[FQ.wh,FQ.wh]at e7;simp_all)]
   exact tr [cl (e_numbersC c.fit.fm),cl (e_numbersC d.fit.fm),cl (e_name c.cm),cl (e_name d.cm),fEq c.cm.nm d.cm.nm,na (t:=decide (c.cm.nm=d.cm.nm)) h1,nf,nf,nf,nf,nf] (by kernel_rfl)
noncomputable abbrev fsf:Func:=fnOf PP 69
def fitL (f:FQ):List V:=dF f.fm
theorem e_samefit (f g:FQ):Pure PP 69 [.ag (fitL f),.ag (fitL g)] (bo (decide (fP f g))):=by
 let X:Nat→St:=fun i=>at_ fsf [(2,.lp 0 0),(3,.lp 1 0),(5,.sl (f.qs.map dR)),(6,.sl (g.qs.map dR)),(7,ni i)] [.bx 40 (fitL f),.bx 40 (fitL g)]
 refine pf (by kernel_rfl) (.to mo_ [] [2,3,5,6,7] [0,1] 2 [cl (e_numbersC6 f.fm),cl (e_numbersC6 g.fm)] (td':=lp fsf 0) (σ':=X 0) ?_ (by kernel_rfl))
 refine Gd.loop X (fun i=>i≤6∧f.qs.take i=g.qs.take i) (fun i=>6 - i) ?_ 0 ⟨Nat.zero_le _,rfl⟩
 intro i ⟨hi,hI⟩ ih
 by_cases h:i<6
 · obtain⟨a,ha,_⟩:=get_of (l:=f.qs) h
   obtain⟨b,hb,_⟩:=get_of (l:=g.qs) h
   have hlt:decide ((i:Int)<((f.qs.map dR).length:Int))=true:=decide_eq_true (by show(i:Int)<6;omega)
   by_cases e:a=b
   · exact .to mo_ [] [2,3,5,6,7] [0,1] 2 [ye hlt,.sel _ _ _ (sel_map (f:=dR) ha),.sel _ _ _ (sel_map (f:=dR) hb),cl (e_same4 a b),na (t:= !(decide (a=b))) (by simp[e]),inc 17 i (by omega)] (ih (i+1) ⟨h,take_step hI ha hb e⟩ (by omega)) (by kernel_rfl)
   · rw[show decide (fP f g)=false from decide_eq_false fun q=>ne_at ha hb e q.2]
     exact fi [ye hlt,.sel _ _ _ (sel_map (f:=dR) ha),.sel _ _ _ (sel_map (f:=dR) hb),cl (e_same4 a b),ye (t:= !(decide (a=b))) (by simp[e])] (by kernel_rfl) (by kernel_rfl)
 · have hq : f.qs = g.qs := eq_of_take hI h rfl
   cases h7:(f.a==g.a:Bool)with
   | true =>
     cases h8:(f.b==g.b:Bool)with
     |true=>
       cases h9:(f.ea==g.ea:Bool)with
       |true=>
         cases h10:(f.eb==g.eb:Bool)with
         |true=>
           rw[show decide (fP f g)=(f.many==g.many)from by rw[Bool.eq_iff_iff];simp only[decide_eq_true_eq,beq_iff_eq,fP,FQ.wh];simp at h7 h8 h9 h10;simp[hq,h7,h8,h9,h10]]
           exact fi [na (t:=decide ((i:Int)<((f.qs.map dR).length:Int))) (decide_eq_false (by show¬(i:Int)<6;omega)),ye (t:=f.a==g.a) h7,ye (t:=f.b==g.b) h8,ye (t:=f.ea==g.ea) h9,ye (t:=f.eb==g.eb) h10] (by kernel_rfl) (by kernel_rfl)
         |false=>
           rw[show decide (fP f g)=false from decide_eq_false fun e=>by obtain⟨e,_⟩:=e;rw[FQ.wh,FQ.wh]at e;simp at e;simp[e]at h10]
           exact fi [na (t:=decide ((i:Int)<((f.qs.map dR).length:Int))) (decide_eq_false (by show¬(i:Int)<6;omega)),ye (t:=f.a==g.a) h7,ye (t:=f.b==g.b) h8,ye (t:=f.ea==g.ea) h9,na (t:=f.eb==g.eb) h10] (by kernel_rfl) (by kernel_rfl)
       |false=>
         rw[show decide (fP f g)=false from decide_eq_false fun e=>by obtain⟨e,_⟩:=e;rw[FQ.wh,FQ.wh]at e;simp at e;simp[e]at h9]
         exact fi [na (t:=decide ((i:Int)<((f.qs.map dR).length:Int))) (decide_eq_false (by show¬(i:Int)<6;omega)),ye (t:=f.a==g.a) h7,ye (t:=f.b==g.b) h8,na (t:=f.ea==g.ea) h9,nf] (by kernel_rfl) (by kernel_rfl)
     |false=>
       rw[show decide (fP f g)=false from decide_eq_false fun e=>by obtain⟨e,_⟩:=e;rw[FQ.wh,FQ.wh]at e;simp at e;simp[e]at h8]
       exact fi [na (t:=decide ((i:Int)<((f.qs.map dR).length:Int))) (decide_eq_false (by show¬(i:Int)<6;omega)),ye (t:=f.a==g.a) h7,na (t:=f.b==g.b) h8,nf,nf] (by kernel_rfl) (by kernel_rfl)
   |false=>
     rw[show decide (fP f g)=false from decide_eq_false fun e=>by obtain⟨e,_⟩:=e;rw[FQ.wh,FQ.wh]at e;simp at e;simp[e]at h7]
     exact fi [na (t:=decide ((i:Int)<((f.qs.map dR).length:Int))) (decide_eq_false (by show¬(i:Int)<6;omega)),na (t:=f.a==g.a) h7,nf,nf,nf] (by kernel_rfl) (by kernel_rfl)
noncomputable abbrev fs15:Func:=fnOf PP 34
theorem e_csame6 (c d : CQ) : Pure PP 34 [.ag (dQ c), .ag (dQ d)] (bo (decide (eqP c d))) := by
 refine .lenA 0 4 (l:=rfs c.refs) (by kernel_rfl) rfl rfl fun hm=> ?_
 rw[rfs,List.length_map]at hm
 unfold maxLen at hm
 cases h11:(c.by_ != d.by_:Bool)with
 |true=>
   rw[show decide (eqP c d)=false from decide_eq_false fun e=>by obtain⟨e1,e2,e3,e4,e5,e6,e7⟩:=e;simp[e1,e2,e3,e4,e5,e6]at h11]
   exact tr [ye (t:=c.by_ != d.by_) h11,yt,yt,yt,yt,yt] (by kernel_rfl)
 | false =>
   cases h12:(c.seq != d.seq:Bool)with
   |true=>
     rw[show decide (eqP c d)=false from decide_eq_false fun e=>by obtain⟨e1,e2,e3,e4,e5,e6,e7⟩:=e;simp[e1,e2,e3,e4,e5,e6]at h12]
     exact tr [na (t:=c.by_ != d.by_) h11,ye (t:=c.seq != d.seq) h12,yt,yt,yt,yt] (by kernel_rfl)
   | false =>
     cases h13:(c.tick != d.tick:Bool)with
     |true=>
       rw[show decide (eqP c d)=false from decide_eq_false fun e=>by obtain⟨e1,e2,e3,e4,e5,e6,e7⟩:=e;simp[e1,e2,e3,e4,e5,e6]at h13]
       exact tr [na (t:=c.by_ != d.by_) h11,na (t:=c.seq != d.seq) h12,ye (t:=c.tick != d.tick) h13,yt,yt,yt] (by kernel_rfl)
     | false =>
       cases h14:(c.kind != d.kind:Bool)with
       |true=>
         rw[show decide (eqP c d)=false from decide_eq_false fun e=>by obtain⟨e1,e2,e3,e4,e5,e6,e7⟩:=e;simp[e1,e2,e3,e4,e5,e6]at h14]
         exact tr [na (t:=c.by_ != d.by_) h11,na (t:=c.seq != d.seq) h12,na (t:=c.tick != d.tick) h13,ye (t:=c.kind != d.kind) h14,yt,yt] (by kernel_rfl)
       | false =>
         cases h15:(c.w != d.w:Bool)with
         |true=>
           rw[show decide (eqP c d)=false from decide_eq_false fun e=>by obtain⟨e1,e2,e3,e4,e5,e6,e7⟩:=e;simp[e1,e2,e3,e4,e5,e6]at h15]
           exact tr [na (t:=c.by_ != d.by_) h11,na (t:=c.seq != d.seq) h12,na (t:=c.tick != d.tick) h13,na (t:=c.kind != d.kind) h14,ye (t:=c.w != d.w) h15,yt] (by kernel_rfl)
         | false =>
           cases h16:(((rfs c.refs).length:Int) != ((rfs d.refs).length:Int):Bool)with
           |true=>
             rw[show decide (eqP c d)=false from decide_eq_false fun e=>by obtain⟨e1,e2,e3,e4,e5,e6,e7⟩:=e;simp[e1,e2,e3,e4,e5,e6]at h16]
             exact tr [na (t:=c.by_ != d.by_) h11,na (t:=c.seq != d.seq) h12,na (t:=c.tick != d.tick) h13,na (t:=c.kind != d.kind) h14,na (t:=c.w != d.w) h15,ye (t:=((rfs c.refs).length:Int) != ((rfs d.refs).length:Int)) h16] (by kernel_rfl)
           | false =>
             have hl:c.refs.length=d.refs.length:=by simp[rfs]at h16;omega
             have hh:c.by_=d.by_∧c.seq=d.seq∧c.tick=d.tick∧c.kind=d.kind∧c.w=d.w:=⟨by simpa using h11,by simpa using h12,by simpa using h13,by simpa using h14,by simpa using h15⟩
             let X:Nat→St:=fun i=>at_ fs15 [(2,.lp 0 0),(3,.lp 1 0),(5,ni i)] [.bx 42 (dQ c),.bx 42 (dQ d)]
             refine pf (by kernel_rfl) (.to mo_ [] [2,3,5] [0,1] 2 [na (t:=c.by_ != d.by_) h11,na (t:=c.seq != d.seq) h12,na (t:=c.tick != d.tick) h13,na (t:=c.kind != d.kind) h14,na (t:=c.w != d.w) h15,na (t:=((rfs c.refs).length:Int) != ((rfs d.refs).length:Int)) h16] (td':=lp fs15 0) (σ':=X 0) ?_ (by kernel_rfl))
             refine Gd.loop X (fun i=>i≤c.refs.length∧c.refs.take i=d.refs.take i) (fun i=>c.refs.length - i) ?_ 0 ⟨Nat.zero_le _,rfl⟩
             intro i ⟨hi,hI⟩ ih
             by_cases h:i<c.refs.length
             · obtain⟨a,ha,_⟩:=get_of h
               obtain⟨b,hb,_⟩:=get_of (l:=d.refs) (i:=i) (by omega)
               have hlt:decide ((i:Int)<((rfs c.refs).length:Int))=true:=decide_eq_true (by rw[rfs,List.length_map];omega)
               by_cases e1:a.1=b.1
               · by_cases e2:a.2=b.2
                 · exact .to mo_ [] [2,3,5] [0,1] 2 [ye hlt,.sel _ _ _ (sel_map (f:=nm) ha),.sel _ _ _ (sel_map (f:=nm) hb),na (t:=a.1 != b.1) (by simp[e1]),.sel _ _ _ (sel_map (f:=nm) ha),.sel _ _ _ (sel_map (f:=nm) hb),na (t:=a.2 != b.2) (by simp[e2]),inc 54 i (by omega)] (ih (i+1) ⟨h,take_step hI ha hb (Prod.ext e1 e2)⟩ (by omega)) (by kernel_rfl)
                 · rw[show decide (eqP c d)=false from decide_eq_false fun q=>ne_at ha hb (fun e=>e2 (by rw[e])) q.2.2.2.2.2.1]
                   exact fi [ye hlt,.sel _ _ _ (sel_map (f:=nm) ha),.sel _ _ _ (sel_map (f:=nm) hb),na (t:=a.1 != b.1) (by simp[e1]),.sel _ _ _ (sel_map (f:=nm) ha),.sel _ _ _ (sel_map (f:=nm) hb),ye (t:=a.2 != b.2) (by simp[e2])] (by kernel_rfl) (by kernel_rfl)
               · rw[show decide (eqP c d)=false from decide_eq_false fun q=>ne_at ha hb (fun e=>e1 (by rw[e])) q.2.2.2.2.2.1]
                 exact fi [ye hlt,.sel _ _ _ (sel_map (f:=nm) ha),.sel _ _ _ (sel_map (f:=nm) hb),ye (t:=a.1 != b.1) (by simp[e1]),yt] (by kernel_rfl) (by kernel_rfl)
             · rw[show decide (eqP c d)=decide (fP c.fit d.fit)from decide_eq_decide.2 ⟨fun e=>e.2.2.2.2.2.2,fun e=>⟨hh.1,hh.2.1,hh.2.2.1,hh.2.2.2.1,hh.2.2.2.2,eq_of_take hI h hl,e⟩⟩]
               exact fi [na (t:=decide ((i:Int)<((rfs c.refs).length:Int))) (decide_eq_false (by rw[rfs,List.length_map];omega)),cl (e_samefit c.fit d.fit)] (by kernel_rfl) (by kernel_rfl)
end
end Go.Proofs.YtfdfbenejkmnlaaGreatDoor.E.Ca
