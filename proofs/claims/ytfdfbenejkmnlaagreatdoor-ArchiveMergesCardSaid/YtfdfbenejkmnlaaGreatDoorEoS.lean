/-
 PACKAGE rat, by the engine.
-/
import Derived.Test.YtfdfbenejkmnlaaGreatDoorEmW
import Derived.Test.YtfdfbenejkmnlaaGreatDoorFlow
import Derived.Test.YtfdfbenejkmnlaaGreatDoorWalkUns
import Derived.RegionTactic
import Derived.BigRegion
import Derived.Deep.RegionHeld3
import Derived.ChangeAlike
import Derived.Test.YtfdfbenejkmnlaaGreatDoorEmP
import Derived.Deep.DeepCutAuto
import Derived.Deep.CutBlock
import Derived.Deep.LoopGhost
import Derived.Test.YtfdfbenejkmnlaaGreatDoorEmM
import Derived.Test.YtfdfbenejkmnlaaGreatDoorDrA
import Derived.OpenShut
import Derived.Test.YtfdfbenejkmnlaaGreatDoorFlowR
namespace Go.Proofs.YtfdfbenejkmnlaaGreatDoor.E
open Go.RowKit
set_option linter.unusedVariables false
section
variable {x y:Int} {j k:Nat} {a b:List Int}
theorem bd_sg {s:Bool} (h:I.Bd k x):I.Bd k (sg s x):=by
 unfold sg;split
 · exact h.neg
 · exact h
theorem e_div3 (bx:I.Bd k x) (by_:I.Bd k y) (hk:k≤800000000000) (h0:y≠0):Pure PP 151 [.ag (dI x),.ag (dI y)] (.tu [.ag (dI (x / y)),.ag (dI (x % y))]):=by
 have lx:=bd_len bx
 have ly:=bd_len by_
 have bv:I.Bd k (I.val (digs y.natAbs)):=by rw[val_];exact by_.of_le (by omega)
 obtain⟨q,⟨dq,vq⟩,hd⟩:=e_divided (can_d x) (can_d y) (by omega) bv (by omega) (by rw[val_];omega)
 rw[val_,val_]at hd vq
 have hq0:0≤(x.natAbs:Int) / (y.natAbs:Int):=Int.ediv_nonneg (by omega) (by omega)
 have hr0:=Int.emod_nonneg (x.natAbs:Int) (show(y.natAbs:Int)≠0 by omega)
 have hr1:=Int.emod_lt_of_pos (x.natAbs:Int) (show 0<(y.natAbs:Int)by omega)
 have hdm:=Int.mul_ediv_add_emod (x.natAbs:Int) (y.natAbs:Int)
 have hq1:(x.natAbs:Int) / (y.natAbs:Int)≤(x.natAbs:Int):=Int.ediv_le_self _ (by omega)
 have bQ:I.Bd k ((x.natAbs:Int) / (y.natAbs:Int)):=bx.of_le (by omega)
 have n1:=e_normal (decide (x<0) != decide (y<0)) dq
 have n2:=e_normal false (dig_ (x:=(x.natAbs:Int) % (y.natAbs:Int)))
 rw[vq]at n1
 rw[sg_f,val_n hr0]at n2
 have b1:I.Bd k 1:=by_.of_le (by omega)
 have nz:(((zs (digs y.natAbs)).length:Int)==0)=false:=by rw[zs_len];exact len_nz h0
 have n3:=e_normal (decide (x<0) != decide (y<0)) (l:=[1]) (fun d h=>by simp at h;omega)
 rw[show I.val [1]=1 by simp[I.val]]at n3
 generalize (x.natAbs:Int) / (y.natAbs:Int)=Q at*
 generalize (x.natAbs:Int) % (y.natAbs:Int)=r at*
 have hax:(x.natAbs:Int)=if x<0 then -x else x:=by split<;>omega
 have hay:(y.natAbs:Int)=if y<0 then -y else y:=by split<;>omega
 by_cases hx:x<0
 · by_cases hr:r=0
   · subst hr
     have e1:x / y=sg (decide (x<0) != decide (y<0)) Q∧x % y=0:=divE h0 (by
      rw[hax,hay]at hdm
      by_cases hy:y<0<;>simp only[hx,hy,if_true,if_false,decide_true,decide_false,sg,bne_self_eq_false,Bool.true_bne,Bool.not_false,Bool.false_eq_true]at hdm⊢ <;>grind) (by omega) (by omega)
     rw[e1.1,e1.2]
     exact tr [na nz,cl hd,cl n1,cl n2,ye (decide_eq_true hx),na (t:=decide (((zs (digs (0:Int).natAbs)).length:Int)>0)) (by rw[digs_z rfl];rfl)] (by kernel_rfl)
   · obtain⟨l2,⟨dl2,vl2,_⟩,hl2⟩:=e_minus3 (a:=digs y.natAbs) (b:=digs r.natAbs) dig_ dig_ (by omega) (len_le (by omega)) (by rw[val_,val_];omega)
     have ho2:=e_normal false dl2
     rw[vl2,sg_f,val_,val_n hr0]at ho2
     have e1:x / y=sg (decide (x<0) != decide (y<0)) Q+sg (decide (x<0) != decide (y<0)) 1∧x % y=(y.natAbs:Int) - r:=divE h0 (by
      rw[hay]
      rw[hax,hay]at hdm
      by_cases hy:y<0<;>simp only[hx,hy,if_true,if_false,decide_true,decide_false,sg,bne_self_eq_false,Bool.true_bne,Bool.not_false,Bool.false_eq_true]at hdm⊢ <;>grind) (by omega) (by omega)
     rw[e1.1,e1.2]
     exact tr [na nz,cl hd,cl n1,cl n2,ye (decide_eq_true hx),ye (t:=decide (((zs (digs r.natAbs)).length:Int)>0)) (by have:=digs_nz hr;rw[zs_len];exact decide_eq_true (by omega)),cl n3,cl (e_add3 (bd_sg (s:=decide (x<0) != decide (y<0)) bQ) (bd_sg (s:=decide (x<0) != decide (y<0)) b1) (by omega)),cl hl2,cl ho2] (by kernel_rfl)
 · have e1:x / y=sg (decide (x<0) != decide (y<0)) Q∧x % y=r:=divE h0 (by
    rw[hax,hay]at hdm
    by_cases hy:y<0<;>simp only[hx,hy,if_true,if_false,decide_true,decide_false,sg,bne_self_eq_false,Bool.false_bne,Bool.false_eq_true]at hdm⊢ <;>grind) (by omega) (by omega)
   rw[e1.1,e1.2]
   exact tr [na nz,cl hd,cl n1,cl n2,na (decide_eq_false hx),nf] (by kernel_rfl)
noncomputable abbrev fg3:Func:=fnOf PP 150
theorem gcd3_small {d:Nat}:∀ z:Nat×Nat,(z.1<1000000000000000000∧z.2<1000000000000000000∧Nat.gcd z.1 z.2=d)→Gd PP 150 (.ag (dI (d:Int))) (lp fg3 1) (at_ fg3 [(4,.lp 2 0),(7,ni z.1),(8,ni z.2)] [.dead,.dead,.bx 32 [bo false,.nl]]):=by
 refine Gd.loop (fun z:Nat×Nat=>at_ fg3 [(4,.lp 2 0),(7,ni z.1),(8,ni z.2)] [.dead,.dead,.bx 32 [bo false,.nl]]) _ (fun z=>z.2) ?_
 rintro ⟨u,v⟩ ⟨hu,hv,hd⟩ ih
 simp only at hu hv hd ih⊢
 cases v with
 |zero=>
  rw[Nat.gcd_zero_right]at hd
  subst hd
  exact fi [na (t:=decide (((0:Nat):Int)>0)) rfl,cl (e_of3 (x:=(u:Int)) ⟨by omega,by omega⟩)] (by kernel_rfl) (by kernel_rfl)
 |succ n=>
  have h1:u % (n+1)<n+1:=Nat.mod_lt _ (by omega)
  have h2:=ih (n+1,u % (n+1)) ⟨by simp only;omega,by simp only;omega,by simp only;rw[gcd_swap];exact hd⟩ (by simp only;omega)
  exact .to mo_ [] [4,7,8] [2] 3 [ye (t:=decide (((n+1:Nat):Int)>0)) (decide_eq_true (by omega)),.eqv 42 (ni ((u:Int).tmod ((n+1:Nat):Int))) (ni ((u % (n+1):Nat):Int)) (ni_eq (by rw[tm_ (by omega)];omega))] h2 (by kernel_rfl)
theorem gcd3_loop {d:Nat} (hk:k≤800000000000):∀ z:Nat×Nat,(I.Bd k z.1∧I.Bd k z.2∧Nat.gcd z.1 z.2=d)→
  Gd PP 150 (.ag (dI (d:Int))) (lp fg3 0) (at_ fg3 [(4,.lp 2 0),(5,.lp 3 0),(6,.lp 4 0)] [.dead,.dead,.bx 32 [bo false,.nl],.bx 32 (dI (z.1:Int)),.bx 32 (dI (z.2:Int))]):=by
 refine Gd.loop (fun z:Nat×Nat=>at_ fg3 [(4,.lp 2 0),(5,.lp 3 0),(6,.lp 4 0)] [.dead,.dead,.bx 32 [bo false,.nl],.bx 32 (dI (z.1:Int)),.bx 32 (dI (z.2:Int))]) _ (fun z=>z.2) ?_
 rintro ⟨u,v⟩ ⟨bu,bv,hd⟩ ih
 simp only at bu bv hd ih⊢
 by_cases hv:v=0
 · subst hv
   rw[Nat.gcd_zero_right]at hd
   subst hd
   exact fi [na (t:=decide (((zs (digs ((0:Nat):Int).natAbs)).length:Int)>0)) (by rw[digs_z (x:=((0:Nat):Int)) rfl];rfl)] (by kernel_rfl) (by kernel_rfl)
 have f0:decide (((zs (digs (v:Int).natAbs)).length:Int)>0)=true:=by
  have:=digs_nz (x:=(v:Int)) (by omega)
  rw[zs_len];exact decide_eq_true (by omega)
 have hlt:u % v<v:=Nat.mod_lt _ (by omega)
 have hdv:=e_div3 bu bv hk (by omega)
 rw[show((u:Int) / (v:Int))=((u / v:Nat):Int)by omega,show((u:Int) % (v:Int))=((u % v:Nat):Int)by omega]at hdv
 have hnext:=ih (v,u % v) ⟨bv,bv.of_le (by simp only[Int.natAbs_natCast];omega),by simp only;rw[gcd_swap];exact hd⟩ (by simp only;omega)
 by_cases h1:(digs (u:Int).natAbs).length≤2
 · by_cases h2:(digs (v:Int).natAbs).length≤2
   · have t1:=e_tiny dig_ h1
     have t2:=e_tiny dig_ h2
     have w1:=two_lt dig_ h1
     have w2:=two_lt dig_ h2
     rw[nat_val]at t1 t2 w1 w2
     exact .to mo_ [] [4,7,8] [2] 3 [ye f0,ye (t:=decide (((zs (digs (u:Int).natAbs)).length:Int)≤2)) (decide_eq_true (by rw[zs_len];omega)),ye (t:=decide (((zs (digs (v:Int).natAbs)).length:Int)≤2)) (decide_eq_true (by rw[zs_len];omega)),cl t1,cl t2] (gcd3_small (u,v) ⟨by simp only;omega,by simp only;omega,hd⟩) (by kernel_rfl)
   · exact .to mo_ [] [4,5,6] [2,3,4] 5 [ye f0,ye (t:=decide (((zs (digs (u:Int).natAbs)).length:Int)≤2)) (decide_eq_true (by rw[zs_len];omega)),na (t:=decide (((zs (digs (v:Int).natAbs)).length:Int)≤2)) (decide_eq_false (by rw[zs_len];omega)),cl hdv] hnext (by kernel_rfl)
 · exact .to mo_ [] [4,5,6] [2,3,4] 5 [ye f0,na (t:=decide (((zs (digs (u:Int).natAbs)).length:Int)≤2)) (decide_eq_false (by rw[zs_len];omega)),nf,cl hdv] hnext (by kernel_rfl)
theorem e_gcd3 (bx:I.Bd k x) (by_:I.Bd k y) (hk:k≤800000000000):Pure PP 150 [.ag (dI x),.ag (dI y)] (.ag (dI (Int.gcd x y))):=by
 have o1:=e_normal false (dig_ (x:=x))
 have o2:=e_normal false (dig_ (x:=y))
 rw[sg_f,val_]at o1 o2
 have hg:=gcd3_loop (k:=k) (d:=Nat.gcd x.natAbs y.natAbs) hk (x.natAbs,y.natAbs) ⟨by unfold I.Bd at*;simpa using bx,by unfold I.Bd at*;simpa using by_,rfl⟩
 exact pf (by kernel_rfl) (.to mo_ [] [4,5,6] [2,3,4] 5 [cl o1,cl o2] hg (by kernel_rfl))
noncomputable abbrev fs3:Func:=fnOf PP 155
theorem Pure.lenI {P:Program} {f:FuncId} {ds:List V} {D:RD} (i:Nat) {x:Int} (hok:okB P f=true) (hi:ds[i]? =some (.ag (dI x))) (h:(digs x.natAbs).length≤maxLen→Pure P f ds D):Pure P f ds D:=
 ⟨okF_of hok,fun w M args hM ha cs=>by
  have h1:=ha.2 i _ hi
  have h2:(digs x.natAbs).length≤maxLen:=by
   generalize args.getD i undef=u at h1
   cases h1 with
   |ag _ us _ h3 h4=>
     have h5:=h4 1 (.sl (zs (digs x.natAbs))) rfl
     generalize us.getD 1 undef=u at h5
     cases h5 with
     |sl _ ad b off c zz _ us h1 h2'=>rw[zs_len]at h1;omega
  exact(h h2).2 w M args hM ha cs⟩
/-- Integers that are the same. -/
theorem e_same3 (x y : Int) : Pure PP 155 [.ag (dI x), .ag (dI y)] (bo (decide (x = y))) := by
 refine .lenI 0 (x:=x) (by kernel_rfl) rfl fun hm=> ?_
 unfold maxLen at hm
 by_cases hs:decide (x<0)=decide (y<0)
 · by_cases hl:(digs x.natAbs).length=(digs y.natAbs).length
   · let X : Nat → St := fun i => at_ fs3 [(2, .lp 0 0), (3, .lp 1 0), (5, ni i)] [.bx 32 (dI x), .bx 32 (dI y)]
     refine pf (by kernel_rfl) (.to mo_ [] [2,3,5] [0,1] 2 [na (t:=decide (x<0) != decide (y<0)) (by rw[hs];simp),na (t:=((zs (digs x.natAbs)).length:Int) != ((zs (digs y.natAbs)).length:Int)) (by rw[zs_len,zs_len,hl];simp)] (td':=lp fs3 0) (σ':=X 0) ?_ (by kernel_rfl))
     refine Gd.loop X (fun i=>i≤(digs x.natAbs).length∧(digs x.natAbs).take i=(digs y.natAbs).take i) (fun i=>(digs x.natAbs).length - i) ?_ 0 ⟨Nat.zero_le _,rfl⟩
     intro i ⟨hi,he⟩ ih
     by_cases h:i<(digs x.natAbs).length
     · have ea:=num_el (l:=digs x.natAbs) (i:=i) h
       have eb:=num_el (l:=digs y.natAbs) (i:=i) (by omega)
       generalize (digs x.natAbs).getD i 0=d at ea
       generalize (digs y.natAbs).getD i 0=e at eb
       let F0:List F_:=[ye (t:=decide ((i:Int)<((zs (digs x.natAbs)).length:Int))) (decide_eq_true (by rw[zs_len];omega)),.sel _ _ _ (zs_at ea),.sel _ _ _ (zs_at eb)]
       by_cases hd:d=e
       · subst hd
         exact .to mo_ [] [2,3,5] [0,1] 2 (F0++[na (t:=d != d) (by simp),inc 26 i (by omega)]) (ih (i+1) ⟨h,by rw[I.take_snoc ea,I.take_snoc eb,he]⟩ (by omega)) (by kernel_rfl)
       · have hne:decide (x=y)=false:=decide_eq_false fun e2=>hd (by subst e2;rw[ea]at eb;exact Option.some.inj eb)
         rw[hne]
         exact fi (F0++[ye (t:=d != e) (by simpa using hd)]) (by kernel_rfl) (by kernel_rfl)
     · have heq:digs x.natAbs=digs y.natAbs:=by rwa [List.take_of_length_le (by omega),List.take_of_length_le (by omega)]at he
       have h2:(x.natAbs:Int)=(y.natAbs:Int):=by rw[←val_ (x:=x),←val_ (x:=y),heq]
       have h3:x=y:=by
        by_cases h4:x<0<;>by_cases h5:y<0<;>simp[h4,h5]at hs<;>omega
       rw[decide_eq_true h3]
       exact fi [na (t:=decide ((i:Int)<((zs (digs x.natAbs)).length:Int))) (decide_eq_false (by rw[zs_len];omega))] (by kernel_rfl) (by kernel_rfl)
   · rw[decide_eq_false (fun e=>hl (by rw[e]))]
     exact tr [na (t:=decide (x<0) != decide (y<0)) (by rw[hs];simp),ye (t:=((zs (digs x.natAbs)).length:Int) != ((zs (digs y.natAbs)).length:Int)) (by rw[zs_len,zs_len];simp;exact fun e=>hl (by exact_mod_cast e))] (by kernel_rfl)
 · rw[decide_eq_false (fun e=>hs (by rw[e]))]
   exact tr [ye (t:=decide (x<0) != decide (y<0)) (by simpa using hs),yt] (by kernel_rfl)
end
end Go.Proofs.YtfdfbenejkmnlaaGreatDoor.E
namespace Go.Proofs.YtfdfbenejkmnlaaGreatDoor
set_option maxHeartbeats 1000000
open Go.RowKit
attribute [local go_sem] run_store_one
set_option linter.unusedVariables false
end Go.Proofs.YtfdfbenejkmnlaaGreatDoor


namespace Go.Proofs.YtfdfbenejkmnlaaGreatDoor
set_option maxHeartbeats 2000000
open Go.RowKit
attribute [local go_sem] run_store_one
set_option linter.unusedVariables false
end Go.Proofs.YtfdfbenejkmnlaaGreatDoor
namespace Go.Proofs.YtfdfbenejkmnlaaGreatDoor
set_option maxHeartbeats 4000000
open Go.RowKit
attribute [local go_sem] run_store_one
set_option linter.unusedVariables false
end Go.Proofs.YtfdfbenejkmnlaaGreatDoor
namespace Go.Proofs.YtfdfbenejkmnlaaGreatDoor
set_option maxHeartbeats 4000000
open Go.RowKit
attribute [local go_sem] run_store_one
set_option linter.unusedVariables false
end Go.Proofs.YtfdfbenejkmnlaaGreatDoor
namespace Go.Proofs.YtfdfbenejkmnlaaGreatDoor
set_option maxHeartbeats 4000000
open Go.RowKit
attribute [local go_sem] run_store_one
set_option linter.unusedVariables false
theorem divInt_pos {p q:Int} (h:0<q) (hg:Int.gcd p q=1):(Rat.divInt p q).num=p∧((Rat.divInt p q).den:Int)=q:=by
 obtain⟨d,rfl⟩:=Int.eq_ofNat_of_zero_le (Int.le_of_lt h)
 have:=Rat.mk_eq_divInt (num:=p) (den:=d) (nz:=by omega) (c:=by simpa[Int.gcd]using hg)
 rw[←this]
 exact⟨rfl,rfl⟩
theorem divInt_neg_ {p q:Int} (h:q<0) (hg:Int.gcd p q=1):(Rat.divInt p q).num= -p∧((Rat.divInt p q).den:Int)= -q:=by
 have h2:=divInt_pos (p:= -p) (q:= -q) (by omega) (by rw[Int.gcd_neg,Int.neg_gcd];exact hg)
 rw[←Rat.neg_divInt_neg]
 exact h2
theorem gcd_ne {x y:Int} (hy:y≠0):(Int.gcd x y:Int)≠0:=by
 have:=Int.gcd_pos_of_ne_zero_right x hy
 omega
theorem divInt_low {x y:Int} (hy:y≠0):Rat.divInt (x / (Int.gcd x y:Int)) (y / (Int.gcd x y:Int))=Rat.divInt x y:=by
 have h1:=Int.ediv_mul_cancel (Int.gcd_dvd_left (a:=x) (b:=y))
 have h2:=Int.ediv_mul_cancel (Int.gcd_dvd_right (a:=x) (b:=y))
 have:=Rat.divInt_mul_right (n:=x / (Int.gcd x y:Int)) (d:=y / (Int.gcd x y:Int)) (gcd_ne (x:=x) hy)
 rw[h1,h2]at this
 exact this.symm
theorem gcd_low {x y:Int} (hy:y≠0):Int.gcd (x / (Int.gcd x y:Int)) (y / (Int.gcd x y:Int))=1:=by
 have:=Int.gcd_pos_of_ne_zero_right x hy
 rw[Int.gcd_ediv_gcd_ediv_gcd this]
theorem low_ne {x y:Int} (hy:y≠0):y / (Int.gcd x y:Int)≠0:=by
 have h2:=Int.ediv_mul_cancel (Int.gcd_dvd_right (a:=x) (b:=y))
 intro h
 rw[h]at h2
 omega
end Go.Proofs.YtfdfbenejkmnlaaGreatDoor
namespace Go.Proofs.YtfdfbenejkmnlaaGreatDoor
set_option maxHeartbeats 1000000
open Go.RowKit
attribute [local go_sem] run_store_one
set_option linter.unusedVariables false
end Go.Proofs.YtfdfbenejkmnlaaGreatDoor
namespace Go.Proofs.YtfdfbenejkmnlaaGreatDoor
set_option maxHeartbeats 4000000
open Go.RowKit
attribute [local go_sem] run_store_one
set_option linter.unusedVariables false
end Go.Proofs.YtfdfbenejkmnlaaGreatDoor
namespace Go.Proofs.YtfdfbenejkmnlaaGreatDoor
set_option maxHeartbeats 4000000
open Go.RowKit
attribute [local go_sem] run_store_one
set_option linter.unusedVariables false
end Go.Proofs.YtfdfbenejkmnlaaGreatDoor
namespace Go.Proofs.YtfdfbenejkmnlaaGreatDoor
set_option maxHeartbeats 2000000
open Go.RowKit
attribute [local go_sem] run_store_one
set_option linter.unusedVariables false
end Go.Proofs.YtfdfbenejkmnlaaGreatDoor
namespace Go.Proofs.YtfdfbenejkmnlaaGreatDoor
set_option maxHeartbeats 1000000
open Go.RowKit
attribute [local go_sem] run_store_one
set_option linter.unusedVariables false
end Go.Proofs.YtfdfbenejkmnlaaGreatDoor
namespace Go.Proofs.YtfdfbenejkmnlaaGreatDoor
set_option maxHeartbeats 2000000
open Go.RowKit
attribute [local go_sem] run_store_one
set_option linter.unusedVariables false
end Go.Proofs.YtfdfbenejkmnlaaGreatDoor
namespace Go.Proofs.YtfdfbenejkmnlaaGreatDoor
set_option maxHeartbeats 4000000
open Go.RowKit
attribute [local go_sem] run_store_one
set_option linter.unusedVariables false
end Go.Proofs.YtfdfbenejkmnlaaGreatDoor
namespace Go.Proofs.YtfdfbenejkmnlaaGreatDoor
set_option maxHeartbeats 2000000
open Go.RowKit
attribute [local go_sem] run_store_one
set_option linter.unusedVariables false
end Go.Proofs.YtfdfbenejkmnlaaGreatDoor
namespace Go.Proofs.YtfdfbenejkmnlaaGreatDoor
set_option maxHeartbeats 4000000
open Go.RowKit
attribute [local go_sem] run_store_one
set_option linter.unusedVariables false
/-- The order of two rationals: -1, 0 or 1. -/
def cmpQ (r t:Rat):Int:=if r<t then -1 else if t<r then 1 else 0
theorem cmp_cross (r t:Rat):cmpZ (r.num*t.den) (t.num*r.den)=cmpQ r t:=by
 unfold cmpZ cmpQ
 simp only[Rat.lt_iff]
theorem cmpQ_sgn {r t:Rat} (h:sgnZ r.num≠sgnZ t.num∨sgnZ r.num=0):cmpZ (sgnZ r.num) (sgnZ t.num)=cmpQ r t:=by
 rw[←cmp_cross]
 have hr:0<(r.den:Int):=by have:=r.den_pos;omega
 have ht:0<(t.den:Int):=by have:=t.den_pos;omega
 generalize r.num=a at*
 generalize t.num=b at*
 generalize (r.den:Int)=c at*
 generalize (t.den:Int)=d at*
 rcases Int.lt_trichotomy a 0 with ha|ha|ha<;>rcases Int.lt_trichotomy b 0 with hb|hb|hb
 ·exfalso;rw[show sgnZ a= -1 from cmpZ_lt ha,show sgnZ b= -1 from cmpZ_lt hb]at h;omega
 ·subst hb;have:=Int.mul_neg_of_neg_of_pos ha ht;rw[show sgnZ a= -1 from cmpZ_lt ha,show sgnZ 0=0 from rfl,Int.zero_mul,cmpZ_lt this];rfl
 ·have h1:=Int.mul_neg_of_neg_of_pos ha ht;have h2:=Int.mul_pos hb hr;rw[show sgnZ a= -1 from cmpZ_lt ha,show sgnZ b=1 from cmpZ_gt hb,cmpZ_lt (x:=a*d) (by omega)];rfl
 ·subst ha;have:=Int.mul_neg_of_neg_of_pos hb hr;rw[show sgnZ b= -1 from cmpZ_lt hb,show sgnZ 0=0 from rfl,Int.zero_mul,cmpZ_gt (x:=0) this];rfl
 ·subst ha;subst hb;rw[show sgnZ 0=0 from rfl,Int.zero_mul,Int.zero_mul]
 ·subst ha;have:=Int.mul_pos hb hr;rw[show sgnZ b=1 from cmpZ_gt hb,show sgnZ 0=0 from rfl,Int.zero_mul,cmpZ_lt this];rfl
 ·have h1:=Int.mul_pos ha ht;have h2:=Int.mul_neg_of_neg_of_pos hb hr;rw[show sgnZ a=1 from cmpZ_gt ha,show sgnZ b= -1 from cmpZ_lt hb,cmpZ_gt (x:=a*d) (by omega)];rfl
 ·subst hb;have:=Int.mul_pos ha ht;rw[show sgnZ a=1 from cmpZ_gt ha,show sgnZ 0=0 from rfl,Int.zero_mul,cmpZ_gt this];rfl
 ·exfalso;rw[show sgnZ a=1 from cmpZ_gt ha,show sgnZ b=1 from cmpZ_gt hb]at h;omega
theorem sgn64 (x:Int):W.Is64 (sgnZ x):=by
 unfold sgnZ cmpZ
 split
 ·exact⟨by omega,by omega⟩
 ·split<;>exact⟨by omega,by omega⟩
end Go.Proofs.YtfdfbenejkmnlaaGreatDoor
namespace Go.Proofs.YtfdfbenejkmnlaaGreatDoor
set_option maxHeartbeats 4000000
open Go.RowKit
attribute [local go_sem] run_store_one
set_option linter.unusedVariables false
section
end
end Go.Proofs.YtfdfbenejkmnlaaGreatDoor
namespace Go.Proofs.YtfdfbenejkmnlaaGreatDoor
set_option maxHeartbeats 4000000
open Go.RowKit
attribute [local go_sem] run_store_one
set_option linter.unusedVariables false
end Go.Proofs.YtfdfbenejkmnlaaGreatDoor
namespace Go.Proofs.YtfdfbenejkmnlaaGreatDoor
set_option maxHeartbeats 4000000
open Go.RowKit
attribute [local go_sem] run_store_one
set_option linter.unusedVariables false
end Go.Proofs.YtfdfbenejkmnlaaGreatDoor
namespace Go.Proofs.YtfdfbenejkmnlaaGreatDoor
set_option maxHeartbeats 4000000
open Go.RowKit
attribute [local go_sem] run_store_one
set_option linter.unusedVariables false
end Go.Proofs.YtfdfbenejkmnlaaGreatDoor
namespace Go.Proofs.YtfdfbenejkmnlaaGreatDoor
set_option maxHeartbeats 4000000
open Go.RowKit
attribute [local go_sem] run_store_one
set_option linter.unusedVariables false
end Go.Proofs.YtfdfbenejkmnlaaGreatDoor

namespace Go.Proofs.YtfdfbenejkmnlaaGreatDoor
set_option maxHeartbeats 4000000
open Go.RowKit
attribute [local go_sem] run_store_one
set_option linter.unusedSimpArgs false
section
end
end Go.Proofs.YtfdfbenejkmnlaaGreatDoor
namespace Go.Proofs.YtfdfbenejkmnlaaGreatDoor
set_option maxHeartbeats 4000000
open Go.RowKit
attribute [local go_sem] run_store_one
set_option linter.unusedSimpArgs false
section
end
section
end
section
end
end Go.Proofs.YtfdfbenejkmnlaaGreatDoor

namespace Go.Proofs.YtfdfbenejkmnlaaGreatDoor
set_option maxHeartbeats 1000000
open Go.RowKit
set_option linter.unusedVariables false
set_option linter.unusedSimpArgs false
attribute [local go_sem] run_store_one
theorem hq {p:Prop} (h:p):Hid p:=Lib.hid h
section
end
section
end
section
end
end Go.Proofs.YtfdfbenejkmnlaaGreatDoor
namespace Go.Proofs.YtfdfbenejkmnlaaGreatDoor
set_option maxHeartbeats 4000000
open Go.RowKit
attribute [local go_sem] run_store_one
set_option linter.unusedVariables false
set_option linter.unusedSimpArgs false
end Go.Proofs.YtfdfbenejkmnlaaGreatDoor
namespace Go.Proofs.YtfdfbenejkmnlaaGreatDoor
set_option maxHeartbeats 4000000
open Go.RowKit
attribute [local go_sem] run_store_one
set_option linter.unusedVariables false
end Go.Proofs.YtfdfbenejkmnlaaGreatDoor
namespace Go.Proofs.YtfdfbenejkmnlaaGreatDoor
set_option maxHeartbeats 4000000
open Go.RowKit
attribute [local go_sem] run_store_one
set_option linter.unusedVariables false
end Go.Proofs.YtfdfbenejkmnlaaGreatDoor
namespace Go.Proofs.YtfdfbenejkmnlaaGreatDoor.E
open Go.RowKit
set_option linter.unusedVariables false
def dR (r:Rat):List V:=[.k (.bool (decide (r.num<0))),dg r.num,.k (.bool (decide (dq r<0))),dg (dq r)]
theorem lz_z {x:Int} (h:x=0):(((zs (digs x.natAbs)).length:Int)==0)=true:=by rw[zs_len];exact len_z h
theorem lz_nz {x:Int} (h:x≠0):(((zs (digs x.natAbs)).length:Int)==0)=false:=by rw[zs_len];exact len_nz h
section
variable {x y:Int} {j k:Nat}
theorem e_one4 (x:Int):Pure PP 153 [.ag (dI x)] (bo (decide (x=1))):=by
 by_cases h0:x<0
 · rw[show decide (x=1)=false from decide_eq_false (by omega)]
   exact tr [ye (decide_eq_true h0),yt] (by kernel_rfl)
 · by_cases h1:(digs x.natAbs).length=1
   · have hd:=digs_one h0 h1
     exact tr [na (decide_eq_false h0),na (t:=((zs (digs x.natAbs)).length:Int) != 1) (by rw[zs_len,h1];rfl),.sel (zs (digs x.natAbs)) 0 [ni x] (by rw[hd];rfl)] (by kernel_rfl)
   · rw[show decide (x=1)=false from decide_eq_false fun e=>h1 (by rw[e,digs_1];rfl)]
     exact tr [na (decide_eq_false h0),ye (t:=((zs (digs x.natAbs)).length:Int) != 1) (by rw[zs_len];simp;omega)] (by kernel_rfl)
/-- A rational of known parts. -/
theorem dR_of {r:Rat} {p q:Int} (h:r.num=p) (g:dq r=q):dR r=[.k (.bool (decide (p<0))),.sl (zs (digs p.natAbs)),.k (.bool (decide (q<0))),.sl (zs (digs q.natAbs))]:=by subst h;subst g;rfl
theorem dR_whole {r:Rat} {p:Int} (h:r.num=p) (g:r.den=1):dR r=[.k (.bool (decide (p<0))),.sl (zs (digs p.natAbs)),.k (.bool false),.sl []]:=by
 rw[dR_of h (dq_one g),show digs (0:Int).natAbs=[]from digs_z rfl];rfl
theorem dR_0:dR 0=[.k (.bool false),.sl [],.k (.bool false),.sl []]:=by
 rw[dR_whole (p:=0) rfl rfl,show digs (0:Int).natAbs=[]from digs_z rfl];rfl
variable {r t:Rat}
theorem e_den4 (r:Rat):Pure PP 135 [.ag (dR r)] (.ag (dI r.den)):=by
 by_cases h:r.den=1
 · rw[show(r.den:Int)=1 by omega]
   exact tr [ye (lz_z (dq_one h)),cl (e_of3 (x:=1) ⟨by decide,by decide⟩)] (by kernel_rfl)
 · rw[←dq_more h]
   exact tr [na (lz_nz (x:=dq r) (by rw[dq_more h];exact den_ne r))] (by kernel_rfl)
theorem e_make4 (bx:I.Bd k x) (by_:I.Bd k y) (hk:k≤800000000000):Pure PP 104 [.ag (dI x),.ag (dI y)] (.ag (dR (Rat.divInt x y))):=by
 by_cases hy:y=0
 · rw[hy,Rat.divInt_zero,dR_0]
   exact tr [ye (lz_z rfl),yt] (by kernel_rfl)
 by_cases hx:x=0
 · rw[hx,Rat.zero_divInt,dR_0]
   exact tr [na (lz_nz hy),ye (lz_z rfl)] (by kernel_rfl)
 have hlow:=divInt_low (x:=x) hy
 have hgl:=gcd_low (x:=x) hy
 have hyg:=low_ne (x:=x) hy
 have hG:=gcd_ne (x:=x) hy
 have hbG:I.Bd k (Int.gcd x y:Int):=Bd.dvd by_ (by rw[Int.natAbs_natCast];exact Int.gcd_dvd_natAbs_right x y) hy
 by_cases hn:y / (Int.gcd x y:Int)<0
 · have hr:=divInt_neg_ hn hgl
   rw[hlow]at hr
   by_cases h1: -(y / (Int.gcd x y:Int))=1
   · rw[dR_whole hr.1 (by omega)]
     exact tr [na (lz_nz hy),na (lz_nz hx),cl (e_gcd3 bx by_ hk),cl (e_div3 bx hbG hk hG),cl (e_div3 by_ hbG hk hG),ye (decide_eq_true hn),cl (e_neg3 (x / (Int.gcd x y:Int))),cl (e_neg3 (y / (Int.gcd x y:Int))),cl (e_one4 (-(y / (Int.gcd x y:Int)))),ye (decide_eq_true h1)] (by kernel_rfl)
   · rw[dR_of hr.1 ((dq_more (by omega)).trans hr.2)]
     exact tr [na (lz_nz hy),na (lz_nz hx),cl (e_gcd3 bx by_ hk),cl (e_div3 bx hbG hk hG),cl (e_div3 by_ hbG hk hG),ye (decide_eq_true hn),cl (e_neg3 (x / (Int.gcd x y:Int))),cl (e_neg3 (y / (Int.gcd x y:Int))),cl (e_one4 (-(y / (Int.gcd x y:Int)))),na (decide_eq_false h1)] (by kernel_rfl)
 · have hr:=divInt_pos (show 0<y / (Int.gcd x y:Int)by omega) hgl
   rw[hlow]at hr
   by_cases h1:y / (Int.gcd x y:Int)=1
   · rw[dR_whole hr.1 (by omega)]
     exact tr [na (lz_nz hy),na (lz_nz hx),cl (e_gcd3 bx by_ hk),cl (e_div3 bx hbG hk hG),cl (e_div3 by_ hbG hk hG),na (decide_eq_false hn),cl (e_one4 (y / (Int.gcd x y:Int))),ye (decide_eq_true h1)] (by kernel_rfl)
   · rw[dR_of hr.1 ((dq_more (by omega)).trans hr.2)]
     exact tr [na (lz_nz hy),na (lz_nz hx),cl (e_gcd3 bx by_ hk),cl (e_div3 bx hbG hk hG),cl (e_div3 by_ hbG hk hG),na (decide_eq_false hn),cl (e_one4 (y / (Int.gcd x y:Int))),na (decide_eq_false h1)] (by kernel_rfl)
theorem e_of4 (hx:W.Is64 x) (hy:W.Is64 y):Pure PP 67 [ni x,ni y] (.ag (dR (Rat.divInt x y))):=
 tr [cl (e_of3 hx),cl (e_of3 hy),cl (e_make4 (bd64 hx) (bd64 hy) (by omega))] (by kernel_rfl)
theorem e_add4 (br:Bq j r) (bt:Bq k t) (hk:j+k+1≤800000000000):Pure PP 89 [.ag (dR r),.ag (dR t)] (.ag (dR (r+t))):=by
 rw[←q_add]
 have h1:=br.1.mul bt.2
 have h2:I.Bd (j+k) (t.num*r.den):=by rw[Nat.add_comm];exact bt.1.mul br.2
 exact tr [cl (e_den4 t),cl (e_mul3 br.1 bt.2 (by omega)),cl (e_den4 r),cl (e_mul3 bt.1 br.2 (by omega)),cl (e_add3 h1 h2 (by omega)),cl (e_den4 r),cl (e_den4 t),cl (e_mul3 br.2 bt.2 (by omega)),cl (e_make4 (h1.add' h2) ((br.2.mul bt.2).mono (by omega)) hk)] (by kernel_rfl)
theorem e_mul4 (br:Bq j r) (bt:Bq k t) (hk:j+k+1≤800000000000):Pure PP 148 [.ag (dR r),.ag (dR t)] (.ag (dR (r*t))):=by
 rw[←q_mul]
 exact tr [cl (e_mul3 br.1 bt.1 (by omega)),cl (e_den4 r),cl (e_den4 t),cl (e_mul3 br.2 bt.2 (by omega)),cl (e_make4 (br.1.mul bt.1) (br.2.mul bt.2) (by omega))] (by kernel_rfl)
theorem e_cmp4 (br:Bq j r) (bt:Bq k t) (hk:j+k+1≤800000000000):Pure PP 149 [.ag (dR r),.ag (dR t)] (ni (cmpQ r t)):=by
 rw[←cmp_cross]
 exact tr [cl (e_den4 t),cl (e_mul3 br.1 bt.2 (by omega)),cl (e_den4 r),cl (e_mul3 bt.1 br.2 (by omega)),cl (e_cmp3 (r.num*t.den) (t.num*r.den))] (by kernel_rfl)
theorem e_sign4 (r:Rat):Pure PP 147 [.ag (dR r)] (ni (sgnZ r.num)):=
 tr [cl (e_sign3 r.num)] (by kernel_rfl)
end
end Go.Proofs.YtfdfbenejkmnlaaGreatDoor.E
namespace Go.Proofs.YtfdfbenejkmnlaaGreatDoor.E
open Go.RowKit
set_option linter.unusedVariables false
section
variable {x y:Int} {j k:Nat}
theorem e_unit (x:Int):Pure PP 123 [.ag (dI x)] (bo (decide (x=1))):=by
 by_cases h0:x<0
 · rw[show decide (x=1)=false from decide_eq_false (by omega)]
   exact tr [na (t:= !decide (x<0)) (by simp[h0]),nf] (by kernel_rfl)
 · by_cases h1:(digs x.natAbs).length=1
   · have hd:=digs_one h0 h1
     exact tr [ye (t:= !decide (x<0)) (by simp[h0]),ye (t:=((zs (digs x.natAbs)).length:Int)==1) (by rw[zs_len,h1];rfl),.sel (zs (digs x.natAbs)) 0 [ni x] (by rw[hd];rfl)] (by kernel_rfl)
   · rw[show decide (x=1)=false from decide_eq_false fun e=>h1 (by rw[e,digs_1];rfl)]
     exact tr [ye (t:= !decide (x<0)) (by simp[h0]),na (t:=((zs (digs x.natAbs)).length:Int)==1) (by rw[zs_len];simp;omega)] (by kernel_rfl)
theorem e_one:Pure PP 173 [] (.ag (dI 1)):=tr [cl (e_of (x:=1) ⟨by decide,by decide⟩)] (by kernel_rfl)
variable {r t:Rat}
theorem e_den (r:Rat):Pure PP 133 [.ag (dR r)] (.ag (dI r.den)):=by
 by_cases h:r.den=1
 · rw[show(r.den:Int)=1 by omega]
   exact tr [ye (lz_z (dq_one h)),cl e_one] (by kernel_rfl)
 · rw[←dq_more h]
   exact tr [na (lz_nz (x:=dq r) (by rw[dq_more h];exact den_ne r))] (by kernel_rfl)
theorem e_rsign (r:Rat):Pure PP 82 [.ag (dR r)] (ni (sgnZ r.num)):=tr [cl (e_sign r.num)] (by kernel_rfl)
theorem e_low (hy:y≠0) (hg:Int.gcd x y=1):Pure PP 171 [.ag (dI x),.ag (dI y)] (.ag (dR (Rat.divInt x y))):=by
 by_cases hn:y<0
 · have hr:=divInt_neg_ hn hg
   by_cases h1: -y=1
   · rw[dR_whole hr.1 (by omega)]
     exact tr [ye (decide_eq_true hn),cl (e_neg x),cl (e_neg y),cl (e_unit (-y)),ye (decide_eq_true h1)] (by kernel_rfl)
   · rw[dR_of hr.1 ((dq_more (by omega)).trans hr.2)]
     exact tr [ye (decide_eq_true hn),cl (e_neg x),cl (e_neg y),cl (e_unit (-y)),na (decide_eq_false h1)] (by kernel_rfl)
 · have hr:=divInt_pos (show 0<y by omega) hg
   by_cases h1:y=1
   · rw[dR_whole hr.1 (by omega)]
     exact tr [na (decide_eq_false hn),cl (e_unit y),ye (decide_eq_true h1)] (by kernel_rfl)
   · rw[dR_of hr.1 ((dq_more (by omega)).trans hr.2)]
     exact tr [na (decide_eq_false hn),cl (e_unit y),na (decide_eq_false h1)] (by kernel_rfl)
theorem e_make (bx:I.Bd k x) (by_:I.Bd k y) (hk:k≤1000000000000):Pure PP 170 [.ag (dI x),.ag (dI y)] (.ag (dR (Rat.divInt x y))):=by
 by_cases hy:y=0
 · rw[hy,Rat.divInt_zero,dR_0]
   exact tr [ye (lz_z rfl),yt] (by kernel_rfl)
 by_cases hx:x=0
 · rw[hx,Rat.zero_divInt,dR_0]
   exact tr [na (lz_nz hy),ye (lz_z rfl)] (by kernel_rfl)
 have hG:=gcd_ne (x:=x) hy
 have hbG:I.Bd k (Int.gcd x y:Int):=Bd.dvd by_ (by rw[Int.natAbs_natCast];exact Int.gcd_dvd_natAbs_right x y) hy
 by_cases h1:(Int.gcd x y:Int)=1
 · exact tr [na (lz_nz hy),na (lz_nz hx),cl (e_gcd bx by_ hk),cl (e_unit (Int.gcd x y)),na (t:= !decide ((Int.gcd x y:Int)=1)) (by simp[h1]),cl (e_low (x:=x) (y:=y) hy (by omega))] (by kernel_rfl)
 · rw[←divInt_low (x:=x) hy]
   exact tr [na (lz_nz hy),na (lz_nz hx),cl (e_gcd bx by_ hk),cl (e_unit (Int.gcd x y)),ye (t:= !decide ((Int.gcd x y:Int)=1)) (by simp[h1]),cl (e_div bx hbG hk hG),cl (e_div by_ hbG hk hG),cl (e_low (low_ne (x:=x) hy) (gcd_low (x:=x) hy))] (by kernel_rfl)
theorem e_rof (hx:W.Is64 x) (hy:W.Is64 y):Pure PP 129 [ni x,ni y] (.ag (dR (Rat.divInt x y))):=
 tr [cl (e_of hx),cl (e_of hy),cl (e_make (bd64 hx) (bd64 hy) (by omega))] (by kernel_rfl)
theorem dq_nz {r:Rat} (h:r.den≠1):dq r≠0:=by rw[dq_more h];exact den_ne r
theorem whole_of {r:Rat} {p:Int} (h:r=Rat.divInt p 1):r.num=p∧r.den=1:=by
 have:=divInt_pos (p:=p) (q:=1) (by decide) (Int.gcd_one_right _)
 rw[←h]at this
 exact⟨this.1,by omega⟩
theorem e_radd (br:Bq j r) (bt:Bq k t) (hk:j+k+1≤1000000000000):Pure PP 169 [.ag (dR r),.ag (dR t)] (.ag (dR (r+t))):=by
 have h1:=br.1.mul bt.2
 have h2:I.Bd (j+k) (t.num*r.den):=by rw[Nat.add_comm];exact bt.1.mul br.2
 have h3:=(br.2.mul bt.2).mono (show j+k≤j+k+1 by omega)
 by_cases hr:r.den=1
 · by_cases ht:t.den=1
   · have:=whole_of (r:=r+t) (p:=r.num+t.num) (by rw[←q_add,hr,ht];simp)
     rw[dR_whole this.1 this.2]
     exact tr [ye (lz_z (dq_one hr)),ye (lz_z (dq_one ht)),cl (e_add (br.1.mono (show j≤j+k by omega)) (bt.1.mono (by omega)) (by omega))] (by kernel_rfl)
   · by_cases r0:r.num=0
     · rw[show r+t=t by rw[num_zero.1 r0,Rat.zero_add]]
       exact tr [ye (lz_z (dq_one hr)),na (lz_nz (dq_nz ht)),ye (lz_z r0)] (by kernel_rfl)
     · have t0:t.num≠0:=fun e=>ht (by rw[num_zero.1 e];rfl)
       rw[←q_add]
       exact tr [ye (lz_z (dq_one hr)),na (lz_nz (dq_nz ht)),na (lz_nz r0),na (lz_nz t0),cl (e_den r),cl (e_den t),cl (e_mul br.1 bt.2 (by omega)),cl (e_mul bt.1 br.2 (by omega)),cl (e_add h1 h2 (by omega)),cl (e_mul br.2 bt.2 (by omega)),cl (e_make (h1.add' h2) h3 hk)] (by kernel_rfl)
 · have r0:r.num≠0:=fun e=>hr (by rw[num_zero.1 e];rfl)
   by_cases t0:t.num=0
   · rw[show r+t=r by rw[num_zero.1 t0,Rat.add_zero]]
     exact tr [na (lz_nz (dq_nz hr)),nf,na (lz_nz r0),ye (lz_z t0)] (by kernel_rfl)
   · rw[←q_add]
     exact tr [na (lz_nz (dq_nz hr)),nf,na (lz_nz r0),na (lz_nz t0),cl (e_den r),cl (e_den t),cl (e_mul br.1 bt.2 (by omega)),cl (e_mul bt.1 br.2 (by omega)),cl (e_add h1 h2 (by omega)),cl (e_mul br.2 bt.2 (by omega)),cl (e_make (h1.add' h2) h3 hk)] (by kernel_rfl)
theorem e_rmul (br:Bq j r) (bt:Bq k t) (hk:j+k≤1000000000000):Pure PP 128 [.ag (dR r),.ag (dR t)] (.ag (dR (r*t))):=by
 by_cases r0:r.num=0
 · rw[num_zero.1 r0,Rat.zero_mul,dR_0]
   exact tr [ye (lz_z rfl),yt] (by kernel_rfl)
 by_cases t0:t.num=0
 · rw[num_zero.1 t0,Rat.mul_zero,dR_0]
   exact tr [na (lz_nz r0),ye (lz_z rfl)] (by kernel_rfl)
 have hx:=q_dvd (p:=r.num) (q:=t.den) (den_ne t)
 have hy:=q_dvd (p:=t.num) (q:=r.den) (den_ne r)
 have b1:I.Bd j (Rat.divInt r.num t.den).num:=Bd.dvd br.1 (by simpa using hx.1) r0
 have b2:I.Bd k (Rat.divInt t.num r.den).num:=Bd.dvd bt.1 (by simpa using hy.1) t0
 have b3:I.Bd k ((Rat.divInt r.num t.den).den:Int):=Bd.dvd bt.2 (by simpa using hx.2) (den_ne t)
 have b4:I.Bd j ((Rat.divInt t.num r.den).den:Int):=Bd.dvd br.2 (by simpa using hy.2) (den_ne r)
 have hne:((Rat.divInt r.num t.den).den:Int)*(Rat.divInt t.num r.den).den≠0:=Int.mul_ne_zero (den_ne _) (den_ne _)
 have hd:Rat.divInt ((Rat.divInt r.num t.den).num*(Rat.divInt t.num r.den).num) ((Rat.divInt r.num t.den).den*(Rat.divInt t.num r.den).den)=r*t:=by rw[q_mul,q_mulx]
 by_cases hr:r.den=1
 · by_cases ht:t.den=1
   · have:=whole_of (r:=r*t) (p:=r.num*t.num) (by rw[←q_mul,hr,ht];simp)
     rw[dR_whole this.1 this.2]
     exact tr [na (lz_nz r0),na (lz_nz t0),ye (lz_z (dq_one hr)),ye (lz_z (dq_one ht)),cl (e_mul br.1 bt.1 hk)] (by kernel_rfl)
   · rw[←hd]
     exact tr [na (lz_nz r0),na (lz_nz t0),ye (lz_z (dq_one hr)),na (lz_nz (dq_nz ht)),cl (e_den t),cl (e_make (br.1.mono (show j≤j+k by omega)) (bt.2.mono (by omega)) hk),cl (e_den r),cl (e_make (bt.1.mono (show k≤j+k by omega)) (br.2.mono (by omega)) hk),cl (e_mul b1 b2 hk),cl (e_den (Rat.divInt r.num t.den)),cl (e_den (Rat.divInt t.num r.den)),cl (e_mul b3 b4 (by omega)),cl (e_low hne (q_gcd r t))] (by kernel_rfl)
 · rw[←hd]
   exact tr [na (lz_nz r0),na (lz_nz t0),na (lz_nz (dq_nz hr)),nf,cl (e_den t),cl (e_make (br.1.mono (show j≤j+k by omega)) (bt.2.mono (by omega)) hk),cl (e_den r),cl (e_make (bt.1.mono (show k≤j+k by omega)) (br.2.mono (by omega)) hk),cl (e_mul b1 b2 hk),cl (e_den (Rat.divInt r.num t.den)),cl (e_den (Rat.divInt t.num r.den)),cl (e_mul b3 b4 (by omega)),cl (e_low hne (q_gcd r t))] (by kernel_rfl)
theorem e_rcmp (br:Bq j r) (bt:Bq k t) (hk:j+k≤1000000000000):Pure PP 85 [.ag (dR r),.ag (dR t)] (ni (cmpQ r t)):=by
 by_cases hd:sgnZ r.num=sgnZ t.num
 · by_cases hz:sgnZ r.num=0
   · rw[←cmpQ_sgn (.inr hz)]
     exact tr [cl (e_rsign r),cl (e_rsign t),na (t:=sgnZ r.num != sgnZ t.num) (by simp[hd]),ye (t:=sgnZ r.num==0) (by simp[hz]),cl (e_of (sgn64 r.num)),cl (e_of (sgn64 t.num)),cl (e_cmp (sgnZ r.num) (sgnZ t.num))] (by kernel_rfl)
   · rw[←cmp_cross]
     exact tr [cl (e_rsign r),cl (e_rsign t),na (t:=sgnZ r.num != sgnZ t.num) (by simp[hd]),na (t:=sgnZ r.num==0) (by simp[hz]),cl (e_den t),cl (e_mul br.1 bt.2 (by omega)),cl (e_den r),cl (e_mul bt.1 br.2 (by omega)),cl (e_cmp (r.num*t.den) (t.num*r.den))] (by kernel_rfl)
 · rw[←cmpQ_sgn (.inl hd)]
   exact tr [cl (e_rsign r),cl (e_rsign t),ye (t:=sgnZ r.num != sgnZ t.num) (by simp[hd]),yt,cl (e_of (sgn64 r.num)),cl (e_of (sgn64 t.num)),cl (e_cmp (sgnZ r.num) (sgnZ t.num))] (by kernel_rfl)
end
end Go.Proofs.YtfdfbenejkmnlaaGreatDoor.E
