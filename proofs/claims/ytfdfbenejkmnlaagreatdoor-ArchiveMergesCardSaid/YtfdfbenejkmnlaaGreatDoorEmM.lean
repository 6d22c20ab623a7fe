/-
 PACKAGE integer by the second engine: sums and products.
-/
import Derived.Test.YtfdfbenejkmnlaaGreatDoorWalkUns
import Derived.Deep.RegionHeld3
import Derived.RegionTactic
import Derived.ChangeAlike
import Derived.BigRegion
import Derived.Test.YtfdfbenejkmnlaaGreatDoorFlow
import Derived.Laws.CopyOwn
import Derived.Test.YtfdfbenejkmnlaaGreatDoorDrA
import Derived.Deep.DeepCutAuto
namespace Go.Proofs.YtfdfbenejkmnlaaGreatDoor
set_option maxHeartbeats 4000000
open Go.RowKit
attribute [local go_sem] run_store_one
set_option linter.unusedVariables false
end Go.Proofs.YtfdfbenejkmnlaaGreatDoor

namespace Go.Proofs.YtfdfbenejkmnlaaGreatDoor
set_option maxHeartbeats 2000000
open Go.RowKit
attribute [local go_sem] run_store_one
set_option linter.unusedVariables false
end Go.Proofs.YtfdfbenejkmnlaaGreatDoor

namespace Go.Proofs.YtfdfbenejkmnlaaGreatDoor
set_option maxHeartbeats 1000000
open Go.RowKit
/-- The first digit less a borrow. -/
def decH (c:Int):List Int→List Int
 |[]=>[]
 |d::t=>(d - c)::t
theorem decH_zero (l:List Int):decH 0 l=l:=by cases l<;>simp[decH]
end Go.Proofs.YtfdfbenejkmnlaaGreatDoor
namespace Go.Proofs.YtfdfbenejkmnlaaGreatDoor
set_option maxHeartbeats 2000000
open Go.RowKit
attribute [local go_sem] run_store_one
set_option linter.unusedVariables false
end Go.Proofs.YtfdfbenejkmnlaaGreatDoor
namespace Go.Proofs.YtfdfbenejkmnlaaGreatDoor
set_option maxHeartbeats 4000000
open Go.RowKit
attribute [local go_sem] run_store_one
set_option linter.unusedVariables false
theorem sg_nat {x:Int}:sg (decide (x<0)) (x.natAbs:Int)=x:=by
 unfold sg
 by_cases h:x<0<;>simp[h]<;>omega
theorem sg_not {x:Int}:sg (!decide (x<0)) (x.natAbs:Int)= -x:=by
 unfold sg
 by_cases h:x<0<;>simp[h]<;>omega
end Go.Proofs.YtfdfbenejkmnlaaGreatDoor
namespace Go.Proofs.YtfdfbenejkmnlaaGreatDoor.E
open Go.RowKit
set_option linter.unusedVariables false
/-- A row is not longer than rows are. -/
theorem Pure.len {P:Program} {f:FuncId} {ds:List V} {D:RD} (i:Nat) {l:List (List V)} (hok:okB P f=true) (hi:ds[i]? =some (.sl l)) (h:l.length≤maxLen→Pure P f ds D):Pure P f ds D:=
 ⟨okF_of hok,fun w M args hM ha cs=>by
  have h1:=ha.2 i _ hi
  have h2:l.length≤maxLen:=by
   generalize args.getD i undef=u at h1
   cases h1 with
   |sl _ ad b off c zz _ us h1 h2'=>omega
  exact(h h2).2 w M args hM ha cs⟩
theorem e_nan (x:Int):Pure PP 117 [ni x] (bo false):=
 tr [.eqv 5 (bo (x != x)) (bo false) (by simp)] (by kernel_rfl)
theorem e_cmpint (x y:Int):Pure PP 72 [ni x,ni y] (ni (cmpZ x y)):=by
 unfold cmpZ
 by_cases h1:x<y
 · rw[if_pos h1]
   exact tr [cl (e_nan x),cl (e_nan y),nf,nf,ye (decide_eq_true h1)] (by kernel_rfl)
 · rw[if_neg h1]
   by_cases h2:y<x
   · rw[if_pos h2]
     exact tr [cl (e_nan x),cl (e_nan y),nf,nf,na (decide_eq_false h1),ye (decide_eq_true h2)] (by kernel_rfl)
   · rw[if_neg h2]
     exact tr [cl (e_nan x),cl (e_nan y),nf,nf,na (decide_eq_false h1),na (decide_eq_false h2)] (by kernel_rfl)
theorem e_compare {a b:List Int} (ca:I.Can a) (cb:I.Can b):Pure PP 172 [zl a,zl b] (ni (cmpZ (I.val a) (I.val b))):=by
 refine .len 0 (l:=zs a) (by kernel_rfl) rfl fun hm=> ?_
 rw[zs_len]at hm
 unfold maxLen at hm
 by_cases hlen:a.length=b.length
 · let X : Int → St := fun k => at_ (fnOf PP 172) [(0, zl a), (1, zl b), (5, ni k)] []
   refine pf (by kernel_rfl) (.to mo_ [] [0,1,5] [] 0 [na (t:=((zs a).length:Int) != ((zs b).length:Int)) (by rw[zs_len,zs_len,hlen];simp),.eqv 18 (ni (IntKind.i64.wrap (((zs a).length:Int) - 1))) (ni ((a.length:Int) - 1)) (by rw[zs_len,IntKind.wrap_i64];unfold ni;congr 2;omega)] (td':=lp (fnOf PP 172) 0) (σ':=X ((a.length:Int) - 1)) ?_ (by kernel_rfl))
   refine Gd.loop (fun k:Nat=>X ((k:Int) - 1)) (fun k=>k≤a.length∧a.drop k=b.drop k) (fun k=>k) ?_ a.length ⟨Nat.le_refl _,by rw[List.drop_of_length_le (Nat.le_refl _),List.drop_of_length_le (by omega)]⟩
   intro k ⟨hk,hd⟩ ih
   cases k with
   |zero=>
     rw[show I.val a=I.val b by rw[show a=b by simpa using hd],cmpZ_eq rfl]
     exact fi [na (t:=decide ((((0:Nat):Int) - 1)≥0)) (by decide)] (by kernel_rfl) (by kernel_rfl)
   |succ j=>
     have ea:=num_el (l:=a) (i:=j) (by omega)
     have eb:=num_el (l:=b) (i:=j) (by omega)
     generalize a.getD j 0=d at ea
     generalize b.getD j 0=e at eb
     show Gd PP _ _ _ (X (((j+1:Nat):Int) - 1))
     rw[show((j+1:Nat):Int) - 1=(j:Int)by omega]
     by_cases h:d=e
     · subst h
       exact .to mo_ [] [0,1,5] [] 0 [ye (t:=decide ((j:Int)≥0)) (by simp),.sel _ _ _ (zs_at ea),.sel _ _ _ (zs_at eb),na (t:=d != d) (by simp),.eqv 22 (ni (IntKind.i64.wrap ((j:Int) - 1))) (ni ((j:Int) - 1)) (by rw[IntKind.wrap_i64];unfold ni;congr 2;omega)] (ih j ⟨by omega,by rw[I.drop_cons ea,I.drop_cons eb,hd]⟩ (by omega)) (by kernel_rfl)
     · rw[←cmp_at ca.1 cb.1 ea eb hd h]
       exact fi [ye (t:=decide ((j:Int)≥0)) (by simp),.sel _ _ _ (zs_at ea),.sel _ _ _ (zs_at eb),ye (t:=d != e) (by simpa using h),.sel _ _ _ (zs_at ea),.sel _ _ _ (zs_at eb),cl (e_cmpint d e)] (by kernel_rfl) (by kernel_rfl)
 · have h:=e_cmpint (a.length:Int) (b.length:Int)
   rw[cmp_len ca cb hlen,←zs_len a,←zs_len b]at h
   exact tr [ye (t:=((zs a).length:Int) != ((zs b).length:Int)) (by rw[zs_len,zs_len];simp;exact fun e=>hlen (by exact_mod_cast e)),cl h] (by kernel_rfl)
/-- A number of known digits. -/
theorem dI_of {ng:Bool} {u:Int} {l:List Int} (hc:I.Can l) (hv:I.val l=u) (h:0<u):dI (sg ng u)=[bo ng,zl l]:=by
 obtain⟨h1,h2⟩:=sg_neg (ng:=ng) h
 have h3:digs (sg ng u).natAbs=l:=I.Can.uniq (digs_ok _).1 hc (by rw[(digs_ok _).2,h2,hv])
 unfold dI
 rw[h1,h3];rfl
theorem dI_0:dI 0=[bo false,.sl []]:=by
 unfold dI
 rw[digs_z rfl];rfl
def nu (x:Int):V:= .k (.int .u64 x)
theorem ni_eq {x y:Int} (h:x=y):ni x=ni y:=congrArg ni h
theorem nu_eq {x y:Int} (h:x=y):nu x=nu y:=congrArg nu h
theorem td_ {u:Int} (h:0≤u) (n:Int):u.tdiv n=u / n:=Int.tdiv_eq_ediv_of_nonneg h
theorem tm_ {u:Int} (h:0≤u) (n:Int):u.tmod n=u % n:=Int.tmod_eq_emod_of_nonneg h
theorem e_unsigned (ng:Bool) {u:Int} (h0:0≤u) (h1:u<18446744073709551616):Pure PP 165 [bo ng,nu u] (.ag (dI (sg ng u))):=by
 by_cases h2:u=0
 · subst h2
   rw[show sg ng 0=0 by unfold sg;cases ng<;>rfl,dI_0]
   exact tr [yt] (by kernel_rfl)
 by_cases h3:u<1000000000
 · rw[dI_of (u:=u) (I.Can.one (d:=u) (by omega) h3) (by simp[I.val]) (by omega)]
   exact tr [na (t:=u==0) (by simpa using h2),ye (decide_eq_true h3),.eqv 14 (ni (IntKind.i64.wrap u)) (ni u) (ni_eq (by rw[IntKind.wrap_i64];omega))] (by kernel_rfl)
 have g1:ni (IntKind.i64.wrap (u.tmod 1000000000))=ni (u % 1000000000):=ni_eq (by rw[tm_ h0,IntKind.wrap_i64];omega)
 by_cases h4:u<1000000000000000000
 · have g2:ni (IntKind.i64.wrap (IntKind.u64.wrap (u.tdiv 1000000000)))=ni (u / 1000000000):=ni_eq (by rw[td_ h0,IntKind.wrap_i64,IntKind.wrap_u64];omega)
   rw[dI_of (u:=u) (l:=[u % 1000000000,u / 1000000000]) ⟨I.Dig.cons (by omega) (by omega) (I.Dig.cons (by omega) (by omega) I.Dig.nil),fun d h=>by simp at h;omega⟩ (by simp only[I.val];omega) (by omega)]
   exact tr [na (t:=u==0) (by simpa using h2),na (decide_eq_false h3),ye (decide_eq_true h4),.eqv 23 _ _ g1,.eqv 26 _ _ g2] (by kernel_rfl)
 · have g2:nu (IntKind.u64.wrap (u.tdiv 1000000000))=nu (u / 1000000000):=nu_eq (by rw[td_ h0,IntKind.wrap_u64];omega)
   have g3:ni (IntKind.i64.wrap ((u / 1000000000).tmod 1000000000))=ni (u / 1000000000 % 1000000000):=ni_eq (by rw[tm_ (by omega),IntKind.wrap_i64];omega)
   have g4:ni (IntKind.i64.wrap (IntKind.u64.wrap ((u / 1000000000).tdiv 1000000000)))=ni (u / 1000000000 / 1000000000):=ni_eq (by rw[td_ (by omega),IntKind.wrap_i64,IntKind.wrap_u64];omega)
   rw[dI_of (u:=u) (l:=[u % 1000000000,u / 1000000000 % 1000000000,u / 1000000000 / 1000000000]) ⟨I.Dig.cons (by omega) (by omega) (I.Dig.cons (by omega) (by omega) (I.Dig.cons (by omega) (by omega) I.Dig.nil)),fun d h=>by simp at h;omega⟩ (by simp only[I.val];omega) (by omega)]
   exact tr [na (t:=u==0) (by simpa using h2),na (decide_eq_false h3),na (decide_eq_false h4),.eqv 32 _ _ g1,.eqv 34 _ _ g2,.eqv 36 _ _ g3,.eqv 38 _ _ g2,.eqv 40 _ _ g4] (by kernel_rfl)
theorem e_of {x:Int} (h:W.Is64 x):Pure PP 131 [ni x] (.ag (dI x)):=by
 unfold W.Is64 at h
 have hs:=sg_nat (x:=x)
 by_cases h0:x<0
 · have hu:=e_unsigned true (u:= -x) (by omega) (by omega)
   rw[show sg true (-x)=x by unfold sg;simp]at hu
   exact tr [.eqv 5 (nu (IntKind.u64.wrap x)) (nu (x+18446744073709551616)) (nu_eq (by rw[IntKind.wrap_u64];omega)),ye (decide_eq_true h0),.eqv 9 (nu (IntKind.u64.wrap (0 - (x+18446744073709551616)))) (nu (-x)) (nu_eq (by rw[IntKind.wrap_u64];omega)),.eqv 11 (bo (decide (x<0))) (bo true) (by rw[decide_eq_true h0]),cl hu] (by kernel_rfl)
 · have hu:=e_unsigned false (u:=x) (by omega) (by omega)
   rw[show sg false x=x by unfold sg;simp]at hu
   exact tr [.eqv 5 (nu (IntKind.u64.wrap x)) (nu x) (nu_eq (by rw[IntKind.wrap_u64];omega)),na (decide_eq_false h0),.eqv 11 (bo (decide (x<0))) (bo false) (by rw[decide_eq_false h0]),cl hu] (by kernel_rfl)
theorem e_neg (x:Int):Pure PP 189 [.ag (dI x)] (.ag (dI (-x))):=by
 by_cases h0:x<0
 · rw[show dI (-x)=[bo false,dg x]by unfold dI;rw[decide_eq_false (show¬ -x<0 by omega),Int.natAbs_neg];rfl]
   exact tr [.eqv 5 (bo (!decide (x<0))) (bo false) (by rw[decide_eq_true h0];rfl),nf] (by kernel_rfl)
 · by_cases h1:x=0
   · subst h1
     rw[show dI (-0)=[bo false,.sl []]from dI_0,dI_0]
     exact tr [yt] (by kernel_rfl)
   · rw[show dI (-x)=[bo true,dg x]by unfold dI;rw[decide_eq_true (show -x<0 by omega),Int.natAbs_neg];rfl]
     exact tr [.eqv 5 (bo (!decide (x<0))) (bo true) (by rw[decide_eq_false h0];rfl),yt,.eqv 10 (bo (decide (((zs (digs x.natAbs)).length:Int)>0))) (bo true) (by have:=digs_nz h1;rw[zs_len];unfold bo;congr 2;exact decide_eq_true (by omega))] (by kernel_rfl)
theorem e_sign (x:Int):Pure PP 125 [.ag (dI x)] (ni (sgnZ x)):=by
 unfold sgnZ
 by_cases h0:x<0
 · rw[cmpZ_lt h0]
   exact tr [ye (decide_eq_true h0)] (by kernel_rfl)
 · by_cases h1:x=0
   · rw[cmpZ_eq h1]
     exact tr [na (decide_eq_false h0),ye (t:=((zs (digs x.natAbs)).length:Int)==0) (by rw[zs_len];exact len_z h1)] (by kernel_rfl)
   · rw[cmpZ_gt (by omega)]
     exact tr [na (decide_eq_false h0),na (t:=((zs (digs x.natAbs)).length:Int)==0) (by rw[zs_len];exact len_nz h1)] (by kernel_rfl)
theorem e_cmp (x y:Int):Pure PP 130 [.ag (dI x),.ag (dI y)] (ni (cmpZ x y)):=by
 obtain⟨cx,vx⟩:=digs_ok x.natAbs
 obtain⟨cy,vy⟩:=digs_ok y.natAbs
 by_cases h0:x<0<;>by_cases h1:y<0
 · have h:=e_compare cy cx
   rw[show cmpZ (I.val (digs y.natAbs)) (I.val (digs x.natAbs))=cmpZ x y by rw[vx,vy];unfold cmpZ;grind]at h
   exact tr [.eqv 10 (bo (decide (x<0) != decide (y<0))) (bo false) (by rw[decide_eq_true h0,decide_eq_true h1];rfl),nf,nf,na (t:=decide (x<0) != decide (y<0)) (by rw[decide_eq_true h0,decide_eq_true h1];rfl),ye (decide_eq_true h0),cl h] (by kernel_rfl)
 · rw[cmpZ_lt (by omega)]
   exact tr [.eqv 10 (bo (decide (x<0) != decide (y<0))) (bo true) (by rw[decide_eq_true h0,decide_eq_false h1];rfl),yt,ye (decide_eq_true h0)] (by kernel_rfl)
 · rw[cmpZ_gt (by omega)]
   exact tr [.eqv 10 (bo (decide (x<0) != decide (y<0))) (bo true) (by rw[decide_eq_false h0,decide_eq_true h1];rfl),yt,na (decide_eq_false h0),ye (t:=decide (x<0) != decide (y<0)) (by rw[decide_eq_false h0,decide_eq_true h1];rfl)] (by kernel_rfl)
 · have h:=e_compare cx cy
   rw[show cmpZ (I.val (digs x.natAbs)) (I.val (digs y.natAbs))=cmpZ x y by rw[vx,vy];unfold cmpZ;grind]at h
   exact tr [.eqv 10 (bo (decide (x<0) != decide (y<0))) (bo false) (by rw[decide_eq_false h0,decide_eq_false h1];rfl),nf,nf,na (t:=decide (x<0) != decide (y<0)) (by rw[decide_eq_false h0,decide_eq_false h1];rfl),na (decide_eq_false h0),cl h] (by kernel_rfl)
/-- One number of at most two digits. -/
theorem two_len {l:List Int} (h:l.length≤2):l=[]∨(∃ a,l=[a])∨∃ a b,l=[a,b]:=by
 match l,h with
 |[],_=>exact .inl rfl
 |[a],_=>exact .inr (.inl ⟨a,rfl⟩)
 |[a,b],_=>exact .inr (.inr ⟨a,b,rfl⟩)
theorem e_two {l:List Int} (hd:I.Dig l):Pure PP 164 [zl l] (.tu [ni (if l.length≤2 then I.val l else 0),bo (decide (l.length≤2))]):=by
 by_cases h:l.length≤2
 · rw[if_pos h,decide_eq_true h]
   rcases two_len h with rfl|⟨a,rfl⟩|⟨a,b,rfl⟩
   · exact tr [yt] (by kernel_rfl)
   · rw[show I.val [a]=a by simp[I.val]]
     exact tr [nf,yt,.sel [[ni a]] 0 _ rfl] (by kernel_rfl)
   · have ha:=hd a (by simp)
     have hb:=hd b (by simp)
     rw[show I.val [a,b]=a+1000000000*b by simp[I.val]]
     exact tr [nf,nf,yt,.sel [[ni a],[ni b]] 1 _ rfl,.eqv 18 (ni (IntKind.i64.wrap (b*1000000000))) (ni (b*1000000000)) (ni_eq (by rw[IntKind.wrap_i64];omega)),.sel [[ni a],[ni b]] 0 _ rfl,.eqv 22 (ni (IntKind.i64.wrap (b*1000000000+a))) (ni (a+1000000000*b)) (ni_eq (by rw[IntKind.wrap_i64];omega))] (by kernel_rfl)
 · rw[if_neg h,decide_eq_false h]
   exact tr [na (t:=((zs l).length:Int)==0) (by rw[zs_len];simp;intro e;simp[e]at h),na (t:=((zs l).length:Int)==1) (by rw[zs_len];simp;omega),na (t:=((zs l).length:Int)==2) (by rw[zs_len];simp;omega)] (by kernel_rfl)
end Go.Proofs.YtfdfbenejkmnlaaGreatDoor.E
namespace Go.Proofs.YtfdfbenejkmnlaaGreatDoor.E
open Go.RowKit
set_option linter.unusedVariables false
theorem wr_ {x:Int} (h:W.Is64 x):IntKind.i64.wrap x=x:=by unfold W.Is64 at h;rw[IntKind.wrap_i64];omega
/-- A known sum. -/
def wq {P:Program} (t:Nat) (x y:Int) (h:x=y∧ -9223372036854775808≤y∧y≤9223372036854775807):Fa P:= .eqv t (ni (IntKind.i64.wrap x)) (ni y) (ni_eq (by obtain⟨rfl,h1,h2⟩:=h;exact wr_ ⟨h1,h2⟩))
/-- A loop whose end is not yet known. -/
theorem Gd.loopE {P:Program} {f:FuncId} {α β:Type} {R:β→RD} {Q:β→Prop} (X:α→St) (J:α→Prop) (μ:α→Nat) {td:List Item} (h:∀ x,J x→(∀ y,J y→μ y<μ x→∃ l,Q l∧Gd P f (R l) td (X y))→∃ l,Q l∧Gd P f (R l) td (X x)) (x:α) (hx:J x):∃ l,Q l∧Gd P f (R l) td (X x):=by
 have key:∀ n x,μ x=n→J x→∃ l,Q l∧Gd P f (R l) td (X x):=by
  intro n
  induction n using Nat.strongRecOn with
  |_ n ih=>exact fun x hn hj=>h x hj fun y hy hlt=>ih (μ y) (hn▸hlt) y rfl hy
 exact key _ x rfl hx
theorem e_of_ (ng:Bool) {l:List Int} (hd:I.Dig l):Pure PP 163 [bo ng,zl l] (.ag (dI (sg ng (I.val l)))):=by
 refine .len 1 (l:=zs l) (by kernel_rfl) rfl fun hm=> ?_
 rw[zs_len]at hm
 unfold maxLen at hm
 let X:Nat→St:=fun k=>at_ (fnOf PP 163) [(0,bo ng),(1,zl l),(4,.lp 0 0),(5,ni k)] [.bx 32 [bo false,.nl]]
 refine pf (by kernel_rfl) (.to mo_ [] [0,1,4,5] [0] 1 [.eqv 7 (ni ((zs l).length:Int)) (ni (l.length:Int)) (by rw[zs_len])] (td':=lp (fnOf PP 163) 0) (σ':=X l.length) ?_ (by kernel_rfl))
 refine Gd.loop X (fun k=>k≤l.length∧∀ j,k≤j→j<l.length→l[j]? =some 0) (fun k=>k) ?_ _ ⟨Nat.le_refl _,fun j h1 h2=>by omega⟩
 intro k ⟨hk,hz⟩ ih
 have hv:=I.val_take_zeros hz
 cases k with
 |zero=>
   rw[←hv,List.take_zero,show sg ng (I.val [])=0 by unfold sg;cases ng<;>rfl,dI_0]
   exact fi [na (t:=decide (((0:Nat):Int)>0)) rfl,nf,ye (t:=((0:Nat):Int)==0) rfl] (by kernel_rfl) (by kernel_rfl)
 |succ j=>
   have e:=num_el (l:=l) (i:=j) (by omega)
   generalize l.getD j 0=d at e
   by_cases h:d=0
   · subst h
     exact .to mo_ [] [0,1,4,5] [0] 1 [ye (t:=decide (((j+1:Nat):Int)>0)) (decide_eq_true (by omega)),wq 13 (((j+1:Nat):Int) - 1) j (by omega),.sel _ _ _ (zs_at e),yt,wq 19 (((j+1:Nat):Int) - 1) j (by omega)] (ih j ⟨by omega,fun i h1 h2=>by
       rcases Nat.lt_or_ge j i with h3|h3
       · exact hz i h3 h2
       · rw[show i=j by omega];exact e⟩ (by omega)) (by kernel_rfl)
   · have hc:=I.can_take hd hk (.inr ⟨d,e,h⟩)
     have hp:=hc.pos (by intro e2;rcases List.take_eq_nil_iff.1 e2 with h5|h5;exact absurd h5 (by omega);rw[h5]at hk;simp at hk)
     have hp2:=I.pw_pos ((l.take (j+1)).length - 1)
     rw[dI_of (u:=I.val l) hc hv (by omega)]
     exact fi [ye (t:=decide (((j+1:Nat):Int)>0)) (decide_eq_true (by omega)),wq 13 (((j+1:Nat):Int) - 1) j (by omega),.sel _ _ _ (zs_at e),na (t:=d==0) (by simpa using h),na (t:=((j+1:Nat):Int)==0) (by simp;omega),.slc (zs l) 0 (j+1) 1 (zs (l.take (j+1))) (by rw[List.drop_zero,zs_take]) (by rw[zs_len];omega) (zs_z l)] (by kernel_rfl) (by kernel_rfl)
theorem mid {r:List Int} {k:Nat} {m:Nat} {d:Int} (h:r.length=k):(r++List.replicate (m+1) d)[k]? =some d:=by
 subst h
 rw[List.getElem?_append_right (Nat.le_refl _),Nat.sub_self,List.replicate_succ];rfl
theorem mid_set {r:List Int} {k m:Nat} {d v:Int} (h:r.length=k):(r++List.replicate (m+1) d).set k v=(r++[v])++List.replicate m d:=by
 subst h
 rw[List.set_append_right _ _ (Nat.le_refl _),Nat.sub_self,List.replicate_succ];simp
/-- A row that is being filled. -/
def row (r:List Int) (n k:Nat):List (List V):=zs (r++List.replicate (n - k) 0)
theorem row_sel {r:List Int} {n k:Nat} (h:r.length=k) (hk:k<n):(row r n k)[k]? =some [ni 0]:=by
 unfold row
 rw[show n - k=(n - k - 1)+1 by omega]
 exact zs_at (mid h)
theorem row_set {r:List Int} {n k:Nat} (v:Int) (h:r.length=k) (hk:k<n):(row r n k).set k [ni v]=row (r++[v]) n (k+1):=by
 unfold row
 rw[show n - k=(n - k - 1)+1 by omega,zs_set,mid_set h,show n - k - 1=n - (k+1)by omega]
theorem row_0 (n:Nat):List.replicate n [ni 0]=row [] n 0:=by unfold row;rw[zs_rep];rfl
theorem row_end {r:List Int} {n k:Nat} (h:n≤k):row r n k=zs r:=by unfold row;rw[show n - k=0 by omega,List.replicate_zero,List.append_nil]
noncomputable abbrev fplus:Func:=fnOf PP 195
noncomputable def plX (a b:List Int) (k:Nat) (r:List Int) (c:Int):St:=at_ fplus [(0,zl a),(1,zl b),(5,.ow 0),(6,ni c),(21,zl a),(22,ni a.length),(23,ni k)] [.rw 3 1 (row r (a.length+1) k)]
theorem plus_loop {a b:List Int} (da:I.Dig a) (db:I.Dig b) (hl:a.length≤1000000000000) (hb:b.length≤a.length):
    ∀ (x:Nat×List Int×Int),(x.1≤a.length∧x.2.1.length=x.1∧I.Dig x.2.1∧0≤x.2.2∧x.2.2≤1∧I.val x.2.1+I.pw x.1*x.2.2=I.val (a.take x.1)+I.val (b.take x.1))→
    ∃ l,(I.Dig l∧I.val l=I.val a+I.val b∧l.length=a.length+1)∧Gd PP 195 (.sl (zs l)) (lp fplus 0) (plX a b x.1 x.2.1 x.2.2):=by
 refine Gd.loopE (fun x:Nat×List Int×Int=>plX a b x.1 x.2.1 x.2.2) _ (fun x=>a.length - x.1) ?_
 rintro ⟨k,r,c⟩ ⟨hk,hr,dr,k3,k4,hv⟩ ih
 simp only at hk hr dr k3 k4 hv ih⊢
 by_cases h:k<a.length
 · have ea:=num_el (l:=a) (i:=k) h
   generalize a.getD k 0=d at ea
   obtain⟨d0,d1⟩:=da.get ea
   have hda:=I.dg_some ea
   have s1:=row_sel (n:=a.length+1) hr (by omega)
   have s2:=fun v=>row_set (n:=a.length+1) v hr (by omega)
   have next:∀ (e v c':Int),I.dg b k=e→v+1000000000*c'=d+e+c→0≤v→v<1000000000→0≤c'→c'≤1→∃ l,(I.Dig l∧I.val l=I.val a+I.val b∧l.length=a.length+1)∧Gd PP 195 (.sl (zs l)) (lp fplus 0) (plX a b (k+1) (r++[v]) c'):=fun e v c' he hq h0 h1 h2 h3=>
     ih (k+1,r++[v],c') ⟨h,by simp[hr],dr.snoc h0 h1,h2,h3,I.plus_step (v:=v) (c':=c') hr hv (by omega)⟩ (by simp only;omega)
   let F0:List F_:=[ye (t:=decide ((k:Int)<(a.length:Int))) (decide_eq_true (by omega)),.sel _ _ _ (zs_at ea),wq 30 (d+c) (d+c) (by omega)]
   let F1:Int→List F_:=fun v=>[.sel _ _ _ s1,.upd _ _ _ [ni v] _ s1 (s2 v),inc 49 k (by omega)]
   by_cases hq:k<b.length
   · have eb:=num_el (l:=b) (i:=k) hq
     generalize b.getD k 0=e at eb
     obtain⟨e0,e1⟩:=db.get eb
     have he:=I.dg_some eb
     let F2:List F_:=[ye (t:=decide ((k:Int)<((zs b).length:Int))) (decide_eq_true (by rw[zs_len];omega)),.sel _ _ _ (zs_at eb),wq 40 (d+c+e) (d+c+e) (by omega)]
     by_cases hv2:d+c+e≥1000000000
     · obtain⟨l,hq,hg⟩:=next e (d+c+e - 1000000000) 1 he (by omega) (by omega) (by omega) (by omega) (by omega)
       exact⟨l,hq,.to mo_ [] [0,1,5,6,21,22,23] [0] 1 (F0++F2++[ye (decide_eq_true hv2),wq 44 (d+c+e - 1000000000) (d+c+e - 1000000000) (by omega)]++F1 (d+c+e - 1000000000)) hg (by kernel_rfl)⟩
     · obtain⟨l,hq,hg⟩:=next e (d+c+e) 0 he (by omega) (by omega) (by omega) (by omega) (by omega)
       exact⟨l,hq,.to mo_ [] [0,1,5,6,21,22,23] [0] 1 (F0++F2++[na (decide_eq_false hv2)]++F1 (d+c+e)) hg (by kernel_rfl)⟩
   · have he:=I.dg_none (b:=b) (k:=k) (by omega)
     let F2:List F_:=[na (t:=decide ((k:Int)<((zs b).length:Int))) (decide_eq_false (by rw[zs_len];omega))]
     by_cases hv2:d+c≥1000000000
     · obtain⟨l,hq,hg⟩:=next 0 (d+c - 1000000000) 1 he (by omega) (by omega) (by omega) (by omega) (by omega)
       exact⟨l,hq,.to mo_ [] [0,1,5,6,21,22,23] [0] 1 (F0++F2++[ye (decide_eq_true hv2),wq 44 (d+c - 1000000000) (d+c - 1000000000) (by omega)]++F1 (d+c - 1000000000)) hg (by kernel_rfl)⟩
     · obtain⟨l,hq,hg⟩:=next 0 (d+c) 0 he (by omega) (by omega) (by omega) (by omega) (by omega)
       exact⟨l,hq,.to mo_ [] [0,1,5,6,21,22,23] [0] 1 (F0++F2++[na (decide_eq_false hv2)]++F1 (d+c)) hg (by kernel_rfl)⟩
 · obtain rfl:k=a.length:=by omega
   have s1:=row_sel (n:=a.length+1) hr (by omega)
   have s2:=row_set (n:=a.length+1) c hr (by omega)
   rw[row_end (Nat.le_refl _)]at s2
   rw[I.val_take_over (Nat.le_refl _),I.val_take_over hb]at hv
   exact⟨r++[c],⟨dr.snoc k3 (by omega),by rw[I.val_snoc,hr];exact hv,by simp[hr]⟩,fi [na (t:=decide ((a.length:Int)<(a.length:Int))) (decide_eq_false (by omega)),.eqv 52 (ni ((zs a).length:Int)) (ni a.length) (by rw[zs_len]),.sel _ _ _ s1,.upd _ _ _ [ni c] _ s1 s2] (by kernel_rfl) (by kernel_rfl)⟩
theorem e_plus {a b:List Int} (da:I.Dig a) (db:I.Dig b) (hl:a.length≤1000000000000∧b.length≤1000000000000):∃ l,(I.Dig l∧I.val l=I.val a+I.val b∧l.length=max a.length b.length+1)∧Pure PP 195 [zl a,zl b] (.sl (zs l)):=by
 by_cases h:a.length<b.length
 · obtain⟨l,⟨h1,h2,h3⟩,hg⟩:=plus_loop db da hl.2 (by omega) (0,[],0) ⟨by simp,rfl,I.Dig.nil,by simp,by simp,by simp[I.val]⟩
   unfold plX at hg
   simp only at hg
   rw[←row_0]at hg
   exact⟨l,⟨h1,by omega,by omega⟩,pf (by kernel_rfl) (.to mo_ [] [0,1,5,6,21,22,23] [0] 1 [ye (t:=decide (((zs a).length:Int)<((zs b).length:Int))) (decide_eq_true (by rw[zs_len,zs_len];omega)),.eqv 18 (ni ((zs b).length:Int)) (ni b.length) (by rw[zs_len]),wq 19 ((b.length:Int)+1) ((b.length+1:Nat):Int) (by omega),.mk (b.length+1) (by omega),.eqv 22 (ni ((zs b).length:Int)) (ni b.length) (by rw[zs_len])] hg (by kernel_rfl))⟩
 · obtain⟨l,⟨h1,h2,h3⟩,hg⟩:=plus_loop da db hl.1 (by omega) (0,[],0) ⟨by simp,rfl,I.Dig.nil,by simp,by simp,by simp[I.val]⟩
   unfold plX at hg
   simp only at hg
   rw[←row_0]at hg
   exact⟨l,⟨h1,by omega,by omega⟩,pf (by kernel_rfl) (.to mo_ [] [0,1,5,6,21,22,23] [0] 1 [na (t:=decide (((zs a).length:Int)<((zs b).length:Int))) (decide_eq_false (by rw[zs_len,zs_len];omega)),.eqv 18 (ni ((zs a).length:Int)) (ni a.length) (by rw[zs_len]),wq 19 ((a.length:Int)+1) ((a.length+1:Nat):Int) (by omega),.mk (a.length+1) (by omega),.eqv 22 (ni ((zs a).length:Int)) (ni a.length) (by rw[zs_len])] hg (by kernel_rfl))⟩
theorem zmid {r s:List Int} {x:Int} {k:Nat} (h:r.length=k):(zs (r++x::s))[k]? =some [ni x]:=zs_at (by subst h;rw[List.getElem?_append_right (Nat.le_refl _),Nat.sub_self];rfl)
theorem zmid_set {r s:List Int} {x:Int} {k:Nat} (y:Int) (h:r.length=k):(zs (r++x::s)).set k [ni y]=zs (r++y::s):=by
 subst h
 rw[zs_set,List.set_append_right _ _ (Nat.le_refl _),Nat.sub_self];rfl
theorem zmid2 {r s:List Int} {x y:Int} {k:Nat} (h:r.length=k):(zs (r++x::y::s))[k+1]? =some [ni y]:=by
 have:=zmid (r:=r++[x]) (s:=s) (x:=y) (k:=k+1) (by simp[h])
 simpa using this
theorem zmid2_set {r s:List Int} {x y:Int} {k:Nat} (v:Int) (h:r.length=k):(zs (r++x::y::s)).set (k+1) [ni v]=zs ((r++[x])++v::s):=by
 have:=zmid_set (r:=r++[x]) (s:=s) (x:=y) (k:=k+1) v (by simp[h])
 simpa using this
noncomputable abbrev fminus:Func:=fnOf PP 196
noncomputable def miX (a b:List Int) (k:Nat) (r:List Int) (c:Int):St:=at_ fminus [(1,zl b),(5,.ow 0),(14,ni a.length),(15,ni k)] [.rw 3 1 (zs (r++decH c (a.drop k)))]
abbrev MinIs (a b l:List Int):Prop:=I.Dig l∧I.val l=I.val a - I.val b∧l.length=a.length
theorem minus_loop {a b:List Int} (da:I.Dig a) (db:I.Dig b) (hl:a.length≤1000000000000) (hb:b.length≤a.length) (hle:I.val b≤I.val a):
    ∀ (x:Nat×List Int×Int),(x.1≤a.length∧x.2.1.length=x.1∧I.Dig x.2.1∧0≤x.2.2∧x.2.2≤1∧I.val x.2.1 - I.pw x.1*x.2.2=I.val (a.take x.1) - I.val (b.take x.1))→
    ∃ l,MinIs a b l∧Gd PP 196 (.sl (zs l)) (lp fminus 0) (miX a b x.1 x.2.1 x.2.2):=by
 refine Gd.loopE (fun x:Nat×List Int×Int=>miX a b x.1 x.2.1 x.2.2) _ (fun x=>a.length - x.1) ?_
 rintro ⟨k,r,c⟩ ⟨hk,hr,dr,k3,k4,hv⟩ ih
 simp only at hk hr dr k3 k4 hv ih⊢
 by_cases h:k<a.length
 · have ea:=num_el (l:=a) (i:=k) h
   generalize a.getD k 0=d at ea
   obtain⟨d0,d1⟩:=da.get ea
   have hda:=I.dg_some ea
   have next:∀ (e v c':Int),I.dg b k=e→v - 1000000000*c'=d - e - c→0≤v→v<1000000000→0≤c'→c'≤1→∃ l,MinIs a b l∧Gd PP 196 (.sl (zs l)) (lp fminus 0) (miX a b (k+1) (r++[v]) c'):=fun e v c' he hq h0 h1 h2 h3=>
     ih (k+1,r++[v],c') ⟨h,by simp[hr],dr.snoc h0 h1,h2,h3,I.minus_step (v:=v) (c':=c') hr hv (by omega)⟩ (by simp only;omega)
   have last:∀ (e v:Int),I.dg b k=e→v - 1000000000=d - e - c→0≤v→v<1000000000→∃ d2,a[k+1]? =some d2:=fun e v he hq h0 h1=>by
    rcases Nat.lt_or_ge (k+1) a.length with h2|h2
    · exact⟨_,List.getElem?_eq_getElem h2⟩
    · have hkk:k+1=a.length:=by omega
      have h3:=I.minus_step (v:=v) (c':=1) hr hv (by omega)
      rw[hkk]at h3
      have h4:=I.minus_last (c:=1) (by rw[List.length_append,hr,List.length_singleton,hkk]) h3 hb (dr.snoc h0 h1) hle (by omega)
      omega
   have hX:miX a b k r c=at_ fminus [(1,zl b),(5,.ow 0),(14,ni a.length),(15,ni k)] [.rw 3 1 (zs (r++(d - c)::a.drop (k+1)))]:=by
    unfold miX
    rw[I.drop_cons ea];rfl
   rw[hX]
   generalize hs:a.drop (k+1)=s
   let R:Int→List (List V):=fun x=>zs (r++x::s)
   have sR:∀ x,(R x)[k]? =some [ni x]:=fun x=>zmid hr
   have uR:∀ x y,(R x).set k [ni y]=R y:=fun x y=>zmid_set y hr
   let F0:List F_:=[ye (t:=decide ((k:Int)<(a.length:Int))) (decide_eq_true (by omega))]
   let FZ:Int→List F_:=fun y=>[.sel _ _ _ (sR y),.sel _ _ _ (sR y)]
   by_cases hq:k<b.length
   · have eb:=num_el (l:=b) (i:=k) hq
     generalize b.getD k 0=e at eb
     obtain⟨e0,e1⟩:=db.get eb
     have he:=I.dg_some eb
     let F1:List F_:=[ye (t:=decide ((k:Int)<((zs b).length:Int))) (decide_eq_true (by rw[zs_len];omega)),.sel _ _ _ (sR (d - c)),.sel _ _ _ (sR (d - c)),.sel _ _ _ (zs_at eb),wq 30 (d - c - e) (d - c - e) (by omega),.sel _ _ _ (sR (d - c)),.upd _ _ _ [ni (d - c - e)] _ (sR (d - c)) (uR _ _)]
     by_cases hn:d - c - e<0
     · obtain⟨d2,hd2⟩:=last e (d - c - e+1000000000) he (by omega) (by omega) (by omega)
       obtain⟨l,hq2,hg⟩:=next e (d - c - e+1000000000) 1 he (by omega) (by omega) (by omega) (by omega) (by omega)
       obtain⟨d20,d21⟩:=da.get hd2
       have hk1:=(List.getElem?_eq_some_iff.1 hd2).1
       unfold miX at hg
       rw[I.drop_cons hd2]at hs hg
       subst hs
       have M:=zmid2 (s:=a.drop (k+1+1)) (x:=d - c - e+1000000000) (y:=d2) hr
       have U:=zmid2_set (s:=a.drop (k+1+1)) (x:=d - c - e+1000000000) (y:=d2) (d2 - 1) hr
       let F2:List F_:=[ye (decide_eq_true hn),.sel _ _ _ (sR (d - c - e)),.sel _ _ _ (sR (d - c - e)),wq 41 (d - c - e+1000000000) (d - c - e+1000000000) (by omega),.sel _ _ _ (sR (d - c - e)),.upd _ _ _ [ni (d - c - e+1000000000)] _ (sR (d - c - e)) (uR _ _),inc 45 k (by omega),.sel _ _ _ M,.sel _ _ _ M,wq 48 (d2 - 1) (d2 - 1) (by omega),.sel _ _ _ M,.upd _ _ _ [ni (d2 - 1)] _ M U,inc 50 k (by omega)]
       exact⟨l,hq2,.to mo_ [] [1,5,14,15] [0] 1 (F0++F1++FZ (d - c - e)++F2) hg (by kernel_rfl)⟩
     · obtain⟨l,hq2,hg⟩:=next e (d - c - e) 0 he (by omega) (by omega) (by omega) (by omega) (by omega)
       unfold miX at hg
       rw[hs,decH_zero,show(r++[d - c - e])++s=r++(d - c - e)::s by simp]at hg
       exact⟨l,hq2,.to mo_ [] [1,5,14,15] [0] 1 (F0++F1++FZ (d - c - e)++[na (decide_eq_false hn),inc 50 k (by omega)]) hg (by kernel_rfl)⟩
   · have he:=I.dg_none (b:=b) (k:=k) (by omega)
     let F1:List F_:=[na (t:=decide ((k:Int)<((zs b).length:Int))) (decide_eq_false (by rw[zs_len];omega))]
     by_cases hn:d - c<0
     · obtain⟨d2,hd2⟩:=last 0 (d - c+1000000000) he (by omega) (by omega) (by omega)
       obtain⟨l,hq2,hg⟩:=next 0 (d - c+1000000000) 1 he (by omega) (by omega) (by omega) (by omega) (by omega)
       obtain⟨d20,d21⟩:=da.get hd2
       have hk1:=(List.getElem?_eq_some_iff.1 hd2).1
       unfold miX at hg
       rw[I.drop_cons hd2]at hs hg
       subst hs
       have M:=zmid2 (s:=a.drop (k+1+1)) (x:=d - c+1000000000) (y:=d2) hr
       have U:=zmid2_set (s:=a.drop (k+1+1)) (x:=d - c+1000000000) (y:=d2) (d2 - 1) hr
       let F2:List F_:=[ye (decide_eq_true hn),.sel _ _ _ (sR (d - c)),.sel _ _ _ (sR (d - c)),wq 41 (d - c+1000000000) (d - c+1000000000) (by omega),.sel _ _ _ (sR (d - c)),.upd _ _ _ [ni (d - c+1000000000)] _ (sR (d - c)) (uR _ _),inc 45 k (by omega),.sel _ _ _ M,.sel _ _ _ M,wq 48 (d2 - 1) (d2 - 1) (by omega),.sel _ _ _ M,.upd _ _ _ [ni (d2 - 1)] _ M U,inc 50 k (by omega)]
       exact⟨l,hq2,.to mo_ [] [1,5,14,15] [0] 1 (F0++F1++FZ (d - c)++F2) hg (by kernel_rfl)⟩
     · obtain⟨l,hq2,hg⟩:=next 0 (d - c) 0 he (by omega) (by omega) (by omega) (by omega) (by omega)
       unfold miX at hg
       rw[hs,decH_zero,show(r++[d - c])++s=r++(d - c)::s by simp]at hg
       exact⟨l,hq2,.to mo_ [] [1,5,14,15] [0] 1 (F0++F1++FZ (d - c)++[na (decide_eq_false hn),inc 50 k (by omega)]) hg (by kernel_rfl)⟩
 · obtain rfl:k=a.length:=by omega
   have hc:=I.minus_last hr hv hb dr hle k3
   subst hc
   rw[I.val_take_over (Nat.le_refl _),I.val_take_over hb]at hv
   unfold miX
   rw[List.drop_length,show r++decH 0 []=r by simp[decH]]
   exact⟨r,⟨dr,by omega,hr⟩,fi [na (t:=decide ((a.length:Int)<(a.length:Int))) (decide_eq_false (by omega))] (by kernel_rfl) (by kernel_rfl)⟩
theorem e_minus {a b:List Int} (da:I.Dig a) (db:I.Dig b) (hl:a.length≤1000000000000) (hb:b.length≤a.length) (hle:I.val b≤I.val a):∃ l,MinIs a b l∧Pure PP 196 [zl a,zl b] (.sl (zs l)):=by
 obtain⟨l,h1,hg⟩:=minus_loop da db hl hb hle (0,[],0) ⟨by simp,rfl,I.Dig.nil,by simp,by simp,by simp[I.val]⟩
 unfold miX at hg
 simp only[List.drop_zero,decH_zero,List.nil_append]at hg
 exact⟨l,h1,pf (by kernel_rfl) (.to mo_ [] [1,5,14,15] [0] 1 [.eqv 8 (ni ((zs a).length:Int)) (ni a.length) (by rw[zs_len]),.mk a.length (by omega),.cpy (List.replicate a.length [ni 0]) (zs a) (by simp[zs_len]) (zs_z1 a),.eqv 14 (ni ((zs a).length:Int)) (ni a.length) (by rw[zs_len])] hg (by kernel_rfl))⟩
end Go.Proofs.YtfdfbenejkmnlaaGreatDoor.E
