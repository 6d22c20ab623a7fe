/-
 CLAIMS: names, their order, by the engine.
-/
import Derived.Test.YtfdfbenejkmnlaaGreatDoorEoS
import Derived.Test.YtfdfbenejkmnlaaGreatDoorEmM
import Derived.Deep.DeepCutAuto
import Derived.LoopTactic
import Derived.Deep.LoopGhost
import Derived.Test.YtfdfbenejkmnlaaGreatDoorDrA
import Derived.ChangeKeysEq
namespace Go.Proofs.YtfdfbenejkmnlaaGreatDoor.E
open Go.RowKit
set_option linter.unusedVariables false
section
variable {x y:Int} {j k:Nat} {l:List Int}
theorem e_good {d:Int} (h0:0≤d) (h1:d<1000000000):Pure PP 162 [ni d] (bo false):=by
 have:=e_bad d
 rwa [decide_eq_false (show¬(d<0∨d≥1000000000)by omega)]at this
noncomputable abbrev fix:Func:=fnOf PP 184
theorem e_index (hd:I.Dig l):Pure PP 184 [zl l,.cl 162 []] (ni (-1)):=by
 refine .len 0 (l:=zs l) (by kernel_rfl) rfl fun hm=> ?_
 rw[zs_len]at hm
 unfold maxLen at hm
 let X:Nat→St:=fun i=>at_ fix [(0,zl l),(1,.cl 162 []),(7,ni l.length),(8,ni i)] []
 refine pf (by kernel_rfl) (.to mo_ [] [0,1,7,8] [] 0 [.eqv 7 (ni ((zs l).length:Int)) (ni l.length) (by rw[zs_len])] (td':=lp fix 0) (σ':=X 0) ?_ (by kernel_rfl))
 refine Gd.loop X (fun i=>i≤l.length) (fun i=>l.length - i) ?_ 0 (Nat.zero_le _)
 intro i hi ih
 by_cases h:i<l.length
 · have e:=num_el h
   generalize l.getD i 0=d at e
   obtain⟨d0,d1⟩:=hd.get e
   exact .to mo_ [] [0,1,7,8] [] 0 [ye (t:=decide ((i:Int)<(l.length:Int))) (decide_eq_true (by omega)),.sel _ _ _ (zs_at e),cl (e_good d0 d1),nf,inc 18 i (by omega)] (ih (i+1) h (by omega)) (by kernel_rfl)
 · exact fi [na (t:=decide ((i:Int)<(l.length:Int))) (decide_eq_false (by omega))] (by kernel_rfl) (by kernel_rfl)
theorem e_contains (hd:I.Dig l):Pure PP 161 [zl l,.cl 162 []] (bo false):=tr [cl (e_index hd)] (by kernel_rfl)
theorem last_nz (h:x≠0):∃ d,(digs x.natAbs)[(digs x.natAbs).length - 1]? =some d∧d≠0:=by
 have hl:=digs_nz h
 have e:=num_el (l:=digs x.natAbs) (i:=(digs x.natAbs).length - 1) (by omega)
 exact⟨_,e,(digs_ok x.natAbs).1.2 _ (by rw[List.getLast?_eq_getElem?];exact e)⟩
theorem e_ivalid (x:Int):Pure PP 122 [.ag (dI x)] (bo true):=by
 refine .lenI 0 (x:=x) (by kernel_rfl) rfl fun hm=> ?_
 unfold maxLen at hm
 have hc:=e_contains (dig_ (x:=x))
 by_cases h:x=0
 · subst h
   rw[dI_0]
   rw[show zl (digs (0:Int).natAbs)= .sl []from dg_d0]at hc
   exact tr [cl hc,nf,yt,yt] (by kernel_rfl)
 · obtain⟨d,e,hd⟩:=last_nz h
   have hl:=digs_nz h
   exact tr [cl hc,nf,na (lz_nz h),nf,ye (t:=decide (((zs (digs x.natAbs)).length:Int)>0)) (by rw[zs_len];exact decide_eq_true (by omega)),.eqv 25 (ni ((zs (digs x.natAbs)).length:Int)) (ni (digs x.natAbs).length) (by rw[zs_len]),wq 26 (((digs x.natAbs).length:Int) - 1) (((digs x.natAbs).length - 1:Nat):Int) (by omega),.sel _ _ _ (zs_at e),.eqv 29 (bo (d != 0)) (bo true) (by rw[show(d != 0)=true by simpa using hd])] (by kernel_rfl)
noncomputable abbrev fv3:Func:=fnOf PP 179
theorem e_ivalid3 (x:Int):Pure PP 179 [.ag (dI x)] (bo true):=by
 refine .lenI 0 (x:=x) (by kernel_rfl) rfl fun hm=> ?_
 unfold maxLen at hm
 have dx:=dig_ (x:=x)
 let X:Nat→St:=fun i=>at_ fv3 [(1,.lp 0 0),(3,ni i)] [.bx 32 (dI x)]
 refine pf (by kernel_rfl) (.to mo_ [] [1,3] [0] 1 [] (td':=lp fv3 0) (σ':=X 0) ?_ (by kernel_rfl))
 refine Gd.loop X (fun i=>i≤(digs x.natAbs).length) (fun i=>(digs x.natAbs).length - i) ?_ 0 (Nat.zero_le _)
 intro i hi ih
 by_cases h:i<(digs x.natAbs).length
 · have e:=num_el h
   generalize (digs x.natAbs).getD i 0=d at e
   obtain⟨d0,d1⟩:=dx.get e
   exact .to mo_ [] [1,3] [0] 1 [ye (t:=decide ((i:Int)<((zs (digs x.natAbs)).length:Int))) (decide_eq_true (by rw[zs_len];omega)),.sel _ _ _ (zs_at e),na (t:=decide (d<0)) (decide_eq_false (by omega)),.sel _ _ _ (zs_at e),na (t:=decide (d≥1000000000)) (decide_eq_false (by omega)),inc 10 i (by omega)] (ih (i+1) h (by omega)) (by kernel_rfl)
 · by_cases h0:x=0
   · subst h0
     have hz:X i=at_ fv3 [(1,.lp 0 0),(3,ni i)] [.bx 32 [bo false,.sl []]]:=by simp only[X];rw[dI_0]
     rw[hz]
     exact fi [na (t:=decide ((i:Int)<((([]:List (List V))).length:Int))) (decide_eq_false (by simp)),yt] (by kernel_rfl) (by kernel_rfl)
   · obtain⟨d,e,hd⟩:=last_nz h0
     have hl:=digs_nz h0
     exact fi [na (t:=decide ((i:Int)<((zs (digs x.natAbs)).length:Int))) (decide_eq_false (by rw[zs_len];omega)),na (lz_nz h0),.eqv 36 (ni ((zs (digs x.natAbs)).length:Int)) (ni (digs x.natAbs).length) (by rw[zs_len]),wq 37 (((digs x.natAbs).length:Int) - 1) (((digs x.natAbs).length - 1:Nat):Int) (by omega),.sel _ _ _ (zs_at e),.eqv 40 (bo (d != 0)) (bo true) (by rw[show(d != 0)=true by simpa using hd])] (by kernel_rfl) (by kernel_rfl)
variable {r:Rat}
theorem bd_dq (br:Bq k r):I.Bd k (dq r):=by
 unfold dq
 split
 · exact I.Bd.zero k
 · exact br.2
theorem dq_not1 (r:Rat):dq r≠1:=by
 unfold dq
 split<;>omega
theorem e_rvalid (br:Bq k r) (hk:k≤1000000000000):Pure PP 81 [.ag (dR r)] (bo true):=by
 have h0:=dq_nonneg r
 have h1:=dq_not1 r
 let F0:List F_:=[cl (e_ivalid r.num),nf,cl (e_ivalid (dq r)),nf,na (t:=decide (dq r<0)) (decide_eq_false (by omega)),cl (e_unit (dq r)),na (t:=decide (dq r=1)) (decide_eq_false h1)]
 by_cases h:r.den=1
 · exact tr (F0++[ye (lz_z (dq_one h))]) (by kernel_rfl)
 · have hg:=e_gcd br.1 (bd_dq br) hk
   have hr:Int.gcd r.num (dq r)=1:=by rw[dq_more h];exact r.reduced
   rw[hr]at hg
   have hu:=e_unit ((1:Nat):Int)
   rw[decide_eq_true (show((1:Nat):Int)=1 from rfl)]at hu
   exact tr (F0++[na (lz_nz (dq_nz h)),cl hg,cl hu]) (by kernel_rfl)
theorem e_valid4 (br:Bq k r) (hk:k≤800000000000):Pure PP 146 [.ag (dR r)] (bo true):=by
 have h0:=dq_nonneg r
 have h1:=dq_not1 r
 let F0:List F_:=[cl (e_ivalid3 r.num),nf,cl (e_ivalid3 (dq r)),nf,na (t:=decide (dq r<0)) (decide_eq_false (by omega)),cl (e_one4 (dq r)),na (t:=decide (dq r=1)) (decide_eq_false h1)]
 by_cases h:r.den=1
 · exact tr (F0++[ye (lz_z (dq_one h))]) (by kernel_rfl)
 · have hg:=e_gcd3 br.1 (bd_dq br) hk
   have hr:Int.gcd r.num (dq r)=1:=by rw[dq_more h];exact r.reduced
   rw[hr]at hg
   have hu:=e_one4 ((1:Nat):Int)
   rw[decide_eq_true (show((1:Nat):Int)=1 from rfl)]at hu
   exact tr (F0++[na (lz_nz (dq_nz h)),cl hg,cl hu]) (by kernel_rfl)
end
end Go.Proofs.YtfdfbenejkmnlaaGreatDoor.E
namespace Go.Proofs.YtfdfbenejkmnlaaGreatDoor
set_option maxHeartbeats 4000000
open Go.RowKit
attribute [local go_sem] run_store_one
set_option linter.unusedVariables false
end Go.Proofs.YtfdfbenejkmnlaaGreatDoor
namespace Go.Proofs.YtfdfbenejkmnlaaGreatDoor
set_option maxHeartbeats 2000000
open Go.RowKit
attribute [local go_sem] run_store_one
set_option linter.unusedVariables false
end Go.Proofs.YtfdfbenejkmnlaaGreatDoor
namespace Go.Proofs.YtfdfbenejkmnlaaGreatDoor
set_option maxHeartbeats 2000000
open Go.RowKit
attribute [local go_sem] run_store_one
set_option linter.unusedVariables false
end Go.Proofs.YtfdfbenejkmnlaaGreatDoor
namespace Go.Proofs.YtfdfbenejkmnlaaGreatDoor
set_option maxHeartbeats 4000000
open Go.RowKit
attribute [local go_sem] run_store_one
set_option linter.unusedVariables false
end Go.Proofs.YtfdfbenejkmnlaaGreatDoor
namespace Go.Proofs.YtfdfbenejkmnlaaGreatDoor
set_option maxHeartbeats 1000000
open Go.RowKit
attribute [local go_sem] run_store_one
set_option linter.unusedVariables false
end Go.Proofs.YtfdfbenejkmnlaaGreatDoor
namespace Go.Proofs.YtfdfbenejkmnlaaGreatDoor.E
open Go.RowKit
set_option linter.unusedVariables false
section
variable {r t:Rat} {j k:Nat} {u v:Rat×Rat}
theorem sel_map {α β:Type} {f:α→β} {l:List α} {i:Nat} {x:α} (h:l[i]? =some x):(l.map f)[i]? =some (f x):=by rw[List.getElem?_map,h];rfl
theorem Bq.rsum {L:List Rat} (hb:∀ r∈L,Bq k r):∀ i,i≤L.length→Bq ((i+1)*(k+1)) (rsum (L.take i))
 |0,_=>by rw[List.take_zero];exact(Bq.zero (by omega):Bq ((0+1)*(k+1)) 0)
 |i+1,hi=>by
  have h:=List.getElem?_eq_getElem (l:=L) (i:=i) (by omega)
  rw[rsum_take h]
  refine((Bq.rsum hb i (by omega)).add (hb _ (List.getElem_mem _))).mono ?_
  simp only[Nat.succ_mul]
  omega
def z4:List V:=[.k (.bool false),.nl,.k (.bool false),.nl]
theorem e_psum {L:List Rat} (hb:∀ r∈L,Bq k r) (hk:(L.length+2)*(k+2)≤1000000000000):Pure PP 127 [.sl (L.map dR)] (.ag (dR (rsum L))):=by
 let X:Nat×List V→St:=fun x=>at_ (fnOf PP 127) [(2,.lp 0 0),(3,.lp 1 0),(6,.sl (L.map dR)),(7,ni (L.map dR).length),(8,ni x.1)] [.bx 34 z4,.bx 34 x.2]
 have hl:(L.map dR).length=L.length:=List.length_map ..
 have hL:L.length*2≤(L.length+2)*(k+2):=Nat.mul_le_mul (by omega) (by omega)
 refine pf (by kernel_rfl) (.to mo_ [.wk 1] [2,3,6,7,8] [0,1] 2 [] (td':=lp (fnOf PP 127) 0) (σ':=X (0,[bo false,.sl [],bo false,.sl []])) ?_ (by kernel_rfl))
 refine Gd.loop X (fun x=>x.1≤L.length∧x.2=dR (rsum (L.take x.1))) (fun x=>L.length - x.1) ?_ _ ⟨Nat.zero_le _,dR_0.symm⟩
 rintro ⟨i,cs⟩ ⟨hi,hcs⟩ ih
 simp only at hi hcs
 subst hcs
 by_cases h:i<L.length
 · have hr:=List.getElem?_eq_getElem h
   have hbits:(i+1)*(k+1)+k+1≤(L.length+2)*(k+2):=by
    have:=Nat.mul_le_mul (show i+2≤L.length+2 by omega) (show k+1≤k+2 by omega)
    rw[Nat.add_mul]at this⊢
    omega
   exact .to mo_ [] [2,3,6,7,8] [0,1] 2 [ye (t:=decide ((i:Int)<((L.map dR).length:Int))) (decide_eq_true (by omega)),.sel (L.map dR) i (dR L[i]) (sel_map hr),cl (e_radd (Bq.rsum hb i hi) (hb _ (List.getElem_mem h)) (by omega)),inc 15 i (by omega)]
    (ih (i+1,dR (rsum (L.take i)+L[i])) ⟨h,by rw[rsum_take hr]⟩ (by simp only;omega)) (by kernel_rfl)
 · rw[show rsum L=rsum (L.take i)by rw[List.take_of_length_le (by omega)]]
   exact fi [na (t:=decide ((i:Int)<((L.map dR).length:Int))) (decide_eq_false (by omega))] (by kernel_rfl) (by kernel_rfl)
theorem e_sum2 (hr:Bq k r) (ht:Bq k t) (hk:4*k+8≤1000000000000):Pure PP 127 [.sl [dR r,dR t]] (.ag (dR (r+t))):=by
 rw[←rsum_two]
 exact e_psum (k:=k) (L:=[r,t]) (by simp[hr,ht]) (by simp;omega)
theorem dq_inj {r t:Rat} (h:r.num=t.num) (g:dq r=dq t):r=t:=by
 have:r.den=t.den:=by
  have h1:=r.den_nz
  have h2:=t.den_nz
  unfold dq at g
  split at g<;>split at g<;>omega
 exact Rat.ext h this
theorem e_same4 (r t:Rat):Pure PP 106 [.ag (dR r),.ag (dR t)] (bo (decide (r=t))):=by
 by_cases h:r.num=t.num
 · rw[show decide (r=t)=decide (dq r=dq t)from decide_eq_decide.2 ⟨fun e=>by rw[e],dq_inj h⟩]
   exact tr [cl (e_same3 r.num t.num),ye (decide_eq_true h),cl (e_same3 (dq r) (dq t))] (by kernel_rfl)
 · rw[show decide (r=t)=false from decide_eq_false fun e=>h (by rw[e])]
   exact tr [cl (e_same3 r.num t.num),na (decide_eq_false h)] (by kernel_rfl)
end
end Go.Proofs.YtfdfbenejkmnlaaGreatDoor.E
namespace Go.Proofs.YtfdfbenejkmnlaaGreatDoor.E
open Go.RowKit
set_option linter.unusedVariables false
section
variable {n:Int} {l:List Int} {i m:Nat} {P:Program}
theorem tmod_ (i m:Nat):((i:Int).tmod (m:Int))=((i % m:Nat):Int):=(Int.ofNat_tmod i m).symm
def eq64 (t:Nat) (x:Int) (h:W.Is64 x):Fa P:= .eqv t (ni (IntKind.i64.wrap x)) (ni x) (by rw[wr_ h])
def rnd (n:Int) (m:Nat):Int:=(if n<0 then -(n+1)else n).tmod ((m+1:Nat):Int)
theorem rnd_in (n:Int) (m:Nat):0≤rnd n m∧rnd n m≤m:=by
 unfold rnd
 have h:∀ x:Int,0≤x→0≤x.tmod ((m+1:Nat):Int)∧x.tmod ((m+1:Nat):Int)≤m:=fun x hx=>⟨Int.tmod_nonneg _ hx,by have:=Int.tmod_lt_of_pos x (b:=((m+1:Nat):Int)) (by omega);omega⟩
 split<;>exact h _ (by omega)
theorem e_around (hn:W.Is64 n) (m:Nat):Pure PP 29 [ni n,ni ((m+1:Nat):Int)] (ni (rnd n m)):=by
 have h64:=hn
 unfold W.Is64 at hn
 unfold rnd
 by_cases h:n<0
 · rw[if_pos h]
   exact tr [ye (t:=decide (n<0)) (decide_eq_true h),eq64 8 (n+1) (by unfold W.Is64;omega),.eqv 9 (ni (IntKind.i64.wrap (0 - (n+1)))) (ni (-(n+1))) (by rw[wr_ (by unfold W.Is64;omega),Int.zero_sub])] (by kernel_rfl)
 · rw[if_neg h]
   exact tr [na (t:=decide (n<0)) (decide_eq_false h)] (by kernel_rfl)
def atz (l:List Int) (i m:Nat):Int:=if i<l.length then rnd (l.getD i 0) m else 0
theorem atz_in (l:List Int) (i m:Nat):0≤atz l i m∧atz l i m≤m:=by
 unfold atz
 split
 · exact rnd_in _ _
 · omega
theorem e_at (hl:∀ x∈l,W.Is64 x) (i m:Nat):Pure PP 8 [zl l,ni i,ni ((m+1:Nat):Int)] (ni (atz l i m)):=by
 have hz:(zs l).length=l.length:=List.length_map ..
 unfold atz
 by_cases h:i<l.length
 · rw[if_pos h]
   have hx:W.Is64 (l.getD i 0):=hl _ (by rw[List.getD_eq_getElem?_getD,List.getElem?_eq_getElem h];exact List.getElem_mem _)
   exact tr [na (t:=decide ((i:Int)<0)) (decide_eq_false (by omega)),na (t:=decide (((zs l).length:Int)≤(i:Int))) (decide_eq_false (by omega)),.sel _ i _ (zs_el h),cl (e_around hx m)] (by kernel_rfl)
 · rw[if_neg h]
   exact tr [na (t:=decide ((i:Int)<0)) (decide_eq_false (by omega)),ye (t:=decide (((zs l).length:Int)≤(i:Int))) (decide_eq_true (by omega))] (by kernel_rfl)
theorem bd7 {x:Int} (h0: -100≤x) (h1:x≤100):I.Bd 7 x:=by unfold I.Bd;simp;omega
theorem i64 {x:Int} (h: -1000≤x∧x≤1000):W.Is64 x:=by unfold W.Is64;omega
end
end Go.Proofs.YtfdfbenejkmnlaaGreatDoor.E
namespace Go.Proofs.YtfdfbenejkmnlaaGreatDoor.E
open Go.RowKit
set_option linter.unusedVariables false
/-- A raw rational number: signs and digits. -/
structure RN where
 s:Bool
 l:List Int
 t:Bool
 m:List Int
def cN (n:RN):List V:=[bo n.s,zl n.l,bo n.t,zl n.m]
/-- An integer's digits, as they should be. -/
def iok (s:Bool) (l:List Int):Prop:=∃ x:Int,s=decide (x<0)∧l=digs x.natAbs
def ofR (r:Rat):RN:=⟨decide (r.num<0),digs r.num.natAbs,decide (dq r<0),digs (dq r).natAbs⟩
def rok (n:RN):Prop:=∃ r:Rat,n=ofR r
/-- Few digits. -/
def Bn (k:Nat) (n:RN):Prop:=(I.Can n.l→I.Bd k (I.val n.l))∧(I.Can n.m→I.Bd k (I.val n.m))
theorem Pure.lenA {P:Program} {f:FuncId} {ds:List V} {D:RD} (i j:Nat) {xs:List V} {l:List (List V)} (hok:okB P f=true) (hi:ds[i]? =some (.ag xs)) (hj:xs[j]? =some (.sl l)) (h:l.length≤maxLen→Pure P f ds D):Pure P f ds D:=
 ⟨okF_of hok,fun w M args hM ha cs=>by
  have h1:=ha.2 i _ hi
  have h2:l.length≤maxLen:=by
   generalize args.getD i undef=u at h1
   cases h1 with
   |ag _ us _ h3 h4=>
     have h5:=h4 j _ hj
     generalize us.getD j undef=u at h5
     cases h5 with
     |sl _ ad b off c zz _ us h1 h2'=>omega
  exact(h h2).2 w M args hM ha cs⟩
section
variable {s t:Bool} {l m:List Int} {k:Nat} {n:RN}
theorem can_val0 (h:I.Can l):0≤I.val l:=by
 by_cases e:l=[]
 · subst e;exact Int.le_refl _
 · have:=h.pos e
   have h2:0≤I.pw (l.length - 1):=by unfold I.pw;exact Int.natCast_nonneg _
   omega
theorem iok_of (h:I.Can l) (h2:l=[]→s=false):iok s l:=by
 have h0:=can_val0 h
 refine⟨sg s (I.val l), ?_, ?_⟩
 · cases s with
   |false=>unfold sg;simp;exact h0
   |true=>
     have hl:l≠[]:=fun e=>by have:=h2 e;cases this
     have h3:I.val l≠0:=fun e=>hl (h.zero e)
     unfold sg;simp;omega
 · have h3:(sg s (I.val l)).natAbs=(I.val l).natAbs:=by unfold sg;cases s<;>simp
   rw[h3]
   exact h.uniq (digs_ok _).1 (by rw[(digs_ok _).2];omega)
theorem dig_first:∀ {l:List Int},¬I.Dig l→∃ (i:Nat) (d:Int),l[i]? =some d∧(d<0∨d≥1000000000)∧∀ t e,t<i→l[t]? =some e→0≤e∧e<1000000000
 |[],h=>absurd I.Dig.nil h
 |a::r,h=>by
  by_cases ha:a<0∨a≥1000000000
  · exact⟨0,a,rfl,ha,fun t e ht=>absurd ht (Nat.not_lt_zero t)⟩
  · obtain⟨i,d,h1,h2,h3⟩:=dig_first (l:=r) (fun g=>h (I.Dig.cons (by omega) (by omega) g))
    refine⟨i+1,d,h1,h2,fun t e ht he=> ?_⟩
    cases t with
    |zero=>simp at he;subst he;omega
    |succ t=>exact h3 t e (by omega) (by simpa using he)
theorem e_index_no (hd:¬I.Dig l):∃ i:Nat,Pure PP 184 [zl l,.cl 162 []] (ni i):=by
 obtain⟨i0,d0,h1,h2,h3⟩:=dig_first hd
 have hi0:=(List.getElem?_eq_some_iff.1 h1).1
 refine⟨i0,.len 0 (l:=zs l) (by kernel_rfl) rfl fun hm=> ?_⟩
 rw[zs_len]at hm
 unfold maxLen at hm
 let X:Nat→St:=fun i=>at_ fix [(0,zl l),(1,.cl 162 []),(7,ni l.length),(8,ni i)] []
 refine pf (by kernel_rfl) (.to mo_ [] [0,1,7,8] [] 0 [.eqv 7 (ni ((zs l).length:Int)) (ni l.length) (by rw[zs_len])] (td':=lp fix 0) (σ':=X 0) ?_ (by kernel_rfl))
 refine Gd.loop X (fun i=>i≤i0) (fun i=>l.length - i) ?_ 0 (Nat.zero_le _)
 intro i hi ih
 have hlt:decide ((i:Int)<(l.length:Int))=true:=decide_eq_true (by omega)
 by_cases h:i=i0
 · subst h
   have c:=e_bad d0
   rw[decide_eq_true h2]at c
   exact fi [ye hlt,.sel _ _ _ (zs_at h1),cl c,yt] (by kernel_rfl) (by kernel_rfl)
 · have e:=num_el (l:=l) (i:=i) (by omega)
   generalize l.getD i 0=d at e
   obtain⟨d0,d1⟩:=h3 i d (by omega) e
   exact .to mo_ [] [0,1,7,8] [] 0 [ye hlt,.sel _ _ _ (zs_at e),cl (e_good d0 d1),nf,inc 18 i (by omega)] (ih (i+1) (by omega) (by omega)) (by kernel_rfl)
theorem e_contains_no (hd:¬I.Dig l):Pure PP 161 [zl l,.cl 162 []] (bo true):=by
 obtain⟨i,h⟩:=e_index_no hd
 exact tr [cl h,.eqv 8 (bo (decide ((i:Int)≥0))) (bo true) (by rw[decide_eq_true (by omega)])] (by kernel_rfl)
theorem last_of (h:l≠[]):∃ d,l[l.length - 1]? =some d∧l.getLast? =some d:=by
 have hl:0<l.length:=List.length_pos_iff.2 h
 have e:=num_el (l:=l) (i:=l.length - 1) (by omega)
 exact⟨_,e,by rw[List.getLast?_eq_getElem?];exact e⟩
theorem iok_zero (hd:I.Dig l) (h:¬iok s l) (hl:l≠[]):l[l.length - 1]? =some 0:=by
 obtain⟨d,h1,h2⟩:=last_of hl
 by_cases h0:d=0
 · rw[h1,h0]
 · exact absurd (iok_of ⟨hd,fun e he=>by rw[h2]at he;injection he with he;subst he;exact h0⟩ fun e=>absurd e hl) h
theorem e_ivalid_no (h:¬iok s l):Pure PP 122 [.ag [bo s,zl l]] (bo false):=by
 refine .lenA 0 1 (l:=zs l) (by kernel_rfl) rfl rfl fun hm=> ?_
 rw[zs_len]at hm
 unfold maxLen at hm
 by_cases hd:I.Dig l
 · have hc:=e_contains hd
   by_cases hl:l=[]
   · subst hl
     have hs:s=true:=by
      cases s with
      |true=>rfl
      |false=>exact absurd (iok_of I.Can.nil fun _=>rfl) h
     subst hs
     rw[show zl []= .sl []from rfl]at hc⊢
     exact tr [cl hc,nf,yt,nf,nf] (by kernel_rfl)
   · have e:=iok_zero hd h hl
     have hp:0<l.length:=List.length_pos_iff.2 hl
     exact tr [cl hc,nf,na (t:=((zs l).length:Int)==0) (by rw[zs_len];simpa using hl),nf,ye (t:=decide (((zs l).length:Int)>0)) (by rw[zs_len];exact decide_eq_true (by omega)),.eqv 25 (ni ((zs l).length:Int)) (ni l.length) (by rw[zs_len]),wq 26 ((l.length:Int) - 1) ((l.length - 1:Nat):Int) (by omega),.sel _ _ _ (zs_at e)] (by kernel_rfl)
 · exact tr [cl (e_contains_no hd),yt] (by kernel_rfl)
theorem e_ivalid3_no (h : ¬ iok s l) : Pure PP 179 [.ag [bo s, zl l]] (bo false) := by
 refine .lenA 0 1 (l:=zs l) (by kernel_rfl) rfl rfl fun hm=> ?_
 rw[zs_len]at hm
 unfold maxLen at hm
 let X:Nat→St:=fun i=>at_ fv3 [(1,.lp 0 0),(3,ni i)] [.bx 32 [bo s,zl l]]
 have start:Gd PP 179 (bo false) (lp fv3 0) (X 0)→Pure PP 179 [.ag [bo s,zl l]] (bo false):=fun g=>pf (by kernel_rfl) (.to mo_ [] [1,3] [0] 1 [] (td':=lp fv3 0) (σ':=X 0) g (by kernel_rfl))
 refine start ?_
 by_cases hd:I.Dig l
 · refine Gd.loop X (fun i=>i≤l.length) (fun i=>l.length - i) ?_ 0 (Nat.zero_le _)
   intro i hi ih
   by_cases hlt:i<l.length
   · have e:=num_el hlt
     generalize l.getD i 0=d at e
     obtain⟨d0,d1⟩:=hd.get e
     exact .to mo_ [] [1,3] [0] 1 [ye (t:=decide ((i:Int)<((zs l).length:Int))) (decide_eq_true (by rw[zs_len];omega)),.sel _ _ _ (zs_at e),na (t:=decide (d<0)) (decide_eq_false (by omega)),.sel _ _ _ (zs_at e),na (t:=decide (d≥1000000000)) (decide_eq_false (by omega)),inc 10 i (by omega)] (ih (i+1) hlt (by omega)) (by kernel_rfl)
   · by_cases hl:l=[]
     · subst hl
       have hs:s=true:=by
        cases s with
        |true=>rfl
        |false=>exact absurd (iok_of I.Can.nil fun _=>rfl) h
       subst hs
       have hx:X i=at_ fv3 [(1,.lp 0 0),(3,ni i)] [.bx 32 [bo true,.sl []]]:=rfl
       rw[hx]
       exact fi [na (t:=decide ((i:Int)<((([]:List (List V))).length:Int))) (decide_eq_false (by simp)),yt] (by kernel_rfl) (by kernel_rfl)
     · have e:=iok_zero hd h hl
       have hp:0<l.length:=List.length_pos_iff.2 hl
       exact fi [na (t:=decide ((i:Int)<((zs l).length:Int))) (decide_eq_false (by rw[zs_len];omega)),na (t:=((zs l).length:Int)==0) (by rw[zs_len];simpa using hl),.eqv 36 (ni ((zs l).length:Int)) (ni l.length) (by rw[zs_len]),wq 37 ((l.length:Int) - 1) ((l.length - 1:Nat):Int) (by omega),.sel _ _ _ (zs_at e)] (by kernel_rfl) (by kernel_rfl)
 · obtain⟨i0,d0,h1,h2,h3⟩:=dig_first hd
   have hi0:=(List.getElem?_eq_some_iff.1 h1).1
   refine Gd.loop X (fun i=>i≤i0) (fun i=>l.length - i) ?_ 0 (Nat.zero_le _)
   intro i hi ih
   have hlt:decide ((i:Int)<((zs l).length:Int))=true:=decide_eq_true (by rw[zs_len];omega)
   by_cases hii:i=i0
   · subst hii
     by_cases hneg:d0<0
     · exact fi [ye hlt,.sel _ _ _ (zs_at h1),ye (t:=decide (d0<0)) (decide_eq_true hneg),yt] (by kernel_rfl) (by kernel_rfl)
     · exact fi [ye hlt,.sel _ _ _ (zs_at h1),na (t:=decide (d0<0)) (decide_eq_false hneg),.sel _ _ _ (zs_at h1),ye (t:=decide (d0≥1000000000)) (decide_eq_true (by omega))] (by kernel_rfl) (by kernel_rfl)
   · have e:=num_el (l:=l) (i:=i) (by omega)
     generalize l.getD i 0=d at e
     obtain⟨d0,d1⟩:=h3 i d (by omega) e
     exact .to mo_ [] [1,3] [0] 1 [ye hlt,.sel _ _ _ (zs_at e),na (t:=decide (d<0)) (decide_eq_false (by omega)),.sel _ _ _ (zs_at e),na (t:=decide (d≥1000000000)) (decide_eq_false (by omega)),inc 10 i (by omega)] (ih (i+1) (by omega) (by omega)) (by kernel_rfl)
/-- What makes a raw number one. -/
theorem rok_whole {x:Int} (h1:n.s=decide (x<0)) (h2:n.l=digs x.natAbs) (h3:n.t=false) (h4:n.m=[]):rok n:=by
 refine⟨(x:Rat), ?_⟩
 obtain⟨s,l,t,m⟩:=n
 simp only at h1 h2 h3 h4
 subst h1;subst h2;subst h3;subst h4
 unfold ofR
 rw[dq_one (r:=(x:Rat)) rfl,show(x:Rat).num=x from rfl,show digs (0:Int).natAbs=[]from digs_z rfl]
 rfl
theorem rok_frac {x y:Int} (h1:n.s=decide (x<0)) (h2:n.l=digs x.natAbs) (h3:n.t=decide (y<0)) (h4:n.m=digs y.natAbs) (hy:1<y) (hg:Int.gcd x y=1):rok n:=by
 refine⟨Rat.divInt x y, ?_⟩
 obtain⟨e1,e2⟩:=divInt_pos (p:=x) (q:=y) (by omega) hg
 obtain⟨s,l,t,m⟩:=n
 simp only at h1 h2 h3 h4
 subst h1;subst h2;subst h3;subst h4
 unfold ofR
 rw[dq_more (r:=Rat.divInt x y) (by omega),e1,e2]
theorem iok_bd {x:Int} (h:l=digs x.natAbs) (hb:I.Can l→I.Bd k (I.val l)):I.Bd k x:=by
 subst h
 have:=hb (digs_ok _).1
 rw[(digs_ok _).2]at this
 unfold I.Bd at*
 simpa using this
theorem e_rvalid_no (h:¬rok n) (hb:Bn k n) (hk:k≤1000000000000):Pure PP 81 [.ag (cN n)] (bo false):=by
 by_cases h1:iok n.s n.l
 · obtain ⟨x, hx1, hx2⟩ := h1
   have vx:=e_ivalid x
   have bx:=iok_bd hx2 hb.1
   by_cases h2:iok n.t n.m
   · obtain⟨y,hy1,hy2⟩:=h2
     have vy:=e_ivalid y
     have by_:=iok_bd hy2 hb.2
     have hc:cN n=[bo (decide (x<0)),.sl (zs (digs x.natAbs)),bo (decide (y<0)),.sl (zs (digs y.natAbs))]:=by unfold cN;rw[hx1,hx2,hy1,hy2];rfl
     rw[hc]
     by_cases y0:y<0
     · exact tr [cl vx,nf,cl vy,nf,ye (t:=decide (y<0)) (decide_eq_true y0),yt] (by kernel_rfl)
     · by_cases y1:y=1
       · exact tr [cl vx,nf,cl vy,nf,na (t:=decide (y<0)) (decide_eq_false y0),cl (e_unit y),ye (t:=decide (y=1)) (decide_eq_true y1)] (by kernel_rfl)
       · by_cases yz:y=0
         · subst yz
           exact absurd (rok_whole hx1 hx2 hy1 (hy2.trans (digs_z rfl))) h
         · have hg:=e_gcd bx by_ hk
           have hu:=e_unit (Int.gcd x y:Int)
           rw[decide_eq_false (show¬(Int.gcd x y:Int)=1 from fun e=>h (rok_frac hx1 hx2 hy1 hy2 (by omega) (by omega)))]at hu
           exact tr [cl vx,nf,cl vy,nf,na (t:=decide (y<0)) (decide_eq_false y0),cl (e_unit y),na (t:=decide (y=1)) (decide_eq_false y1),na (lz_nz yz),cl hg,cl hu] (by kernel_rfl)
   · have hc:cN n=[bo (decide (x<0)),.sl (zs (digs x.natAbs)),bo n.t,zl n.m]:=by unfold cN;rw[hx1,hx2];rfl
     rw[hc]
     exact tr [cl vx,nf,cl (e_ivalid_no h2),yt,yt,yt] (by kernel_rfl)
 · exact tr [cl (e_ivalid_no h1),yt,yt,yt,yt] (by kernel_rfl)
theorem e_valid4_no (h:¬rok n) (hb:Bn k n) (hk:k≤800000000000):Pure PP 146 [.ag (cN n)] (bo false):=by
 by_cases h1:iok n.s n.l
 · obtain ⟨x, hx1, hx2⟩ := h1
   have vx:=e_ivalid3 x
   have bx:=iok_bd hx2 hb.1
   by_cases h2:iok n.t n.m
   · obtain⟨y,hy1,hy2⟩:=h2
     have vy:=e_ivalid3 y
     have by_:=iok_bd hy2 hb.2
     have hc:cN n=[bo (decide (x<0)),.sl (zs (digs x.natAbs)),bo (decide (y<0)),.sl (zs (digs y.natAbs))]:=by unfold cN;rw[hx1,hx2,hy1,hy2];rfl
     rw[hc]
     by_cases y0:y<0
     · exact tr [cl vx,nf,cl vy,nf,ye (t:=decide (y<0)) (decide_eq_true y0),yt] (by kernel_rfl)
     · by_cases y1:y=1
       · exact tr [cl vx,nf,cl vy,nf,na (t:=decide (y<0)) (decide_eq_false y0),cl (e_one4 y),ye (t:=decide (y=1)) (decide_eq_true y1)] (by kernel_rfl)
       · by_cases yz:y=0
         · subst yz
           exact absurd (rok_whole hx1 hx2 hy1 (hy2.trans (digs_z rfl))) h
         · have hg:=e_gcd3 bx by_ hk
           have hu:=e_one4 (Int.gcd x y:Int)
           rw[decide_eq_false (show¬(Int.gcd x y:Int)=1 from fun e=>h (rok_frac hx1 hx2 hy1 hy2 (by omega) (by omega)))]at hu
           exact tr [cl vx,nf,cl vy,nf,na (t:=decide (y<0)) (decide_eq_false y0),cl (e_one4 y),na (t:=decide (y=1)) (decide_eq_false y1),na (lz_nz yz),cl hg,cl hu] (by kernel_rfl)
   · have hc:cN n=[bo (decide (x<0)),.sl (zs (digs x.natAbs)),bo n.t,zl n.m]:=by unfold cN;rw[hx1,hx2];rfl
     rw[hc]
     exact tr [cl vx,nf,cl (e_ivalid3_no h2),yt,yt,yt] (by kernel_rfl)
 · exact tr [cl (e_ivalid3_no h1),yt,yt,yt,yt] (by kernel_rfl)
/-- A raw number that is one. -/
theorem Bn.bq {r:Rat} (h:Bn k (ofR r)) (hk:1≤k):Bq k r:=by
 have h1:=iok_bd (l:=(ofR r).l) (x:=r.num) rfl h.1
 have h2:=iok_bd (l:=(ofR r).m) (x:=dq r) rfl h.2
 refine⟨h1, ?_⟩
 by_cases e:r.den=1
 · rw[e]
   unfold I.Bd
   have:2 ^ 1≤2 ^ k:=Nat.pow_le_pow_right (by omega) hk
   simp;omega
 · rw[←dq_more e];exact h2
end
end Go.Proofs.YtfdfbenejkmnlaaGreatDoor.E
namespace Go.Proofs.YtfdfbenejkmnlaaGreatDoor.E
open Go.RowKit
set_option linter.unusedVariables false
section
variable {P:Program} {w:World}
def iT (P:Program) (t:TypeId):Bool:=match P.underlying t with
 |some (.int .i64)=>true
 |_=>false
theorem iT_of {t:TypeId} (h:iT P t=true):P.underlying t=some (.int .i64):=by
 unfold iT at h
 split at h
 · assumption
 · cases h
theorem part_int {t:TypeId} (he:P.underlying t=some (.int .i64)) {xs:Array Value} {off:Nat} {v:Value} (hx:xs[off]? =some v):(part t xs off).run P w= .ok v w:=by simp[part,isAgg,run_under he,hx]
def intsF (P:Program):Nat→List Field→Bool
 |_,[]=>true
 |o,f::r=>f.name != "_" &&(iT P f.type&&(Nat.beq f.offset o&&intsF P (o+1) r))
theorem at_end {pre xs:List Value} {x:Value} {o:Nat} (h:pre.length=o):(pre++x::xs).toArray[o]? =some x:=by
 subst h
 simp
theorem eqFields_ints (d:Nat):∀ (fs:List Field) (o:Nat) (xs ys:List Int) (pre pre':List Value),intsF P o fs=true→xs.length=fs.length→ys.length=fs.length→pre.length=o→pre'.length=o→(Op.eqFields (d+1) (pre++xs.map (Value.int .i64)).toArray (pre'++ys.map (Value.int .i64)).toArray fs).run P w= .ok (decide (xs=ys)) w
 |[],o,xs,ys,pre,pre',_,hx,hy,_,_=>by
  have hx:xs=[]:=List.length_eq_zero_iff.1 hx
  have hy:ys=[]:=List.length_eq_zero_iff.1 hy
  subst hx;subst hy
  simp[Op.eqFields]
 |f::r,o,x::xs,y::ys,pre,pre',h,hx,hy,hp,hp'=>by
  simp only[intsF,Bool.and_eq_true,bne_iff_ne]at h
  obtain⟨h1,h2,h3,h4⟩:=h
  have h2:=iT_of h2
  have h3:=Nat.eq_of_beq_eq_true h3
  have ih:=eqFields_ints d r (o+1) xs ys (pre++[.int .i64 x]) (pre'++[.int .i64 y]) h4 (by simpa using hx) (by simpa using hy) (by simp[hp]) (by simp[hp'])
  rw[List.append_assoc,List.append_assoc]at ih
  have e1:=part_int (w:=w) h2 (xs:=(pre++ .int .i64 x::xs.map (Value.int .i64)).toArray) (off:=f.offset) (at_end (hp.trans h3.symm))
  have e2:=part_int (w:=w) h2 (xs:=(pre'++ .int .i64 y::ys.map (Value.int .i64)).toArray) (off:=f.offset) (at_end (hp'.trans h3.symm))
  have e3:=run_equalIn_int (P:=P) w d f.type .i64 .i64 x y h2
  simp only[List.map_cons,Op.eqFields,h1,ne_eq,not_false_eq_true,if_true,Sem.run_bind,e1,e2,e3,Result.andThen_ok]
  by_cases hxy:x=y
  · subst hxy
    rw[if_neg (by simp)]
    simpa using ih
  · rw[if_pos (by simp[hxy])]
    simp[hxy]
 |f::r,o,[],ys,pre,pre',_,hx,_,_,_=>by simp at hx
 |f::r,o,x::xs,[],pre,pre',_,_,hy,_,_=>by simp at hy
def sOk (P:Program) (T:TypeId) (n:Nat):Bool:=(match P.underlying T with
 |some (.struct fs)=>intsF P 0 fs.toList&&Nat.beq fs.toList.length n
 |_=>false)&& !P.stoodInHeld T
theorem kv_ni (l:List Int):(l.map ni).map kv=l.map (Value.int .i64):=by rw[List.map_map];rfl
theorem EqA.str {T:TypeId} {n:Nat} (h:sOk P T n=true) {xs ys:List Int} (hx:xs.length=n) (hy:ys.length=n):EqA P T (xs.map ni) (ys.map ni) (decide (xs=ys)):=fun w=>by
 unfold sOk at h
 rw[Bool.and_eq_true]at h
 obtain⟨h,hs⟩:=h
 split at h
 · rename_i fs hu
   simp only[Bool.and_eq_true]at h
   have hn:=Nat.eq_of_beq_eq_true h.2
   have hf:P.fieldsOf T=fs:=by simp[Program.fieldsOf,hu]
   rw[kv_ni,kv_ni]
   show(Op.equalIn 10000 T _ _).run P w=_
   rw[run_equalIn_struct w 9999 T _ _ (by rw[hu,hf]) (by simpa using hs),hf]
   exact eqFields_ints 9998 fs.toList 0 xs ys [] [] h.1 (by omega) (by omega) rfl rfl
 · cases h
theorem eqItems_ints (d:Nat) {e:TypeId} (he:P.underlying e=some (.int .i64)):∀ (n o:Nat) (xs ys:List Int) (pre pre':List Value),xs.length=n→ys.length=n→pre.length=o→pre'.length=o→(Op.eqItems (d+1) e 1 (pre++xs.map (Value.int .i64)).toArray (pre'++ys.map (Value.int .i64)).toArray (List.range' o n)).run P w= .ok (decide (xs=ys)) w
 |0,o,xs,ys,pre,pre',hx,hy,_,_=>by
  have hx:xs=[]:=List.length_eq_zero_iff.1 hx
  have hy:ys=[]:=List.length_eq_zero_iff.1 hy
  subst hx;subst hy
  simp[Op.eqItems]
 |n+1,o,x::xs,y::ys,pre,pre',hx,hy,hp,hp'=>by
  have ih:=eqItems_ints d he n (o+1) xs ys (pre++[.int .i64 x]) (pre'++[.int .i64 y]) (by simpa using hx) (by simpa using hy) (by simp[hp]) (by simp[hp'])
  rw[List.append_assoc,List.append_assoc]at ih
  have e1:=part_int (w:=w) he (xs:=(pre++ .int .i64 x::xs.map (Value.int .i64)).toArray) (off:=o*1) (at_end (by omega))
  have e2:=part_int (w:=w) he (xs:=(pre'++ .int .i64 y::ys.map (Value.int .i64)).toArray) (off:=o*1) (at_end (by omega))
  have e3:=run_equalIn_int (P:=P) w d e .i64 .i64 x y he
  simp only[List.range'_succ,List.map_cons,Op.eqItems,Sem.run_bind,e1,e2,e3,Result.andThen_ok]
  by_cases hxy:x=y
  · subst hxy
    rw[if_neg (by simp)]
    simpa using ih
  · rw[if_pos (by simp[hxy])]
    simp[hxy]
 |n+1,o,[],ys,pre,pre',hx,_,_,_=>by simp at hx
 |n+1,o,x::xs,[],pre,pre',_,hy,_,_=>by simp at hy
def aOk (P:Program) (T:TypeId) (n:Nat):Bool:=match P.underlying T with
 |some (.array k e)=>Nat.beq k n&&(iT P e&&(Nat.beq (P.cellsOf e) 1&&(P.info? e).isSome))
 |_=>false
theorem EqA.arr {T:TypeId} {n:Nat} (h:aOk P T n=true) {xs ys:List Int} (hx:xs.length=n) (hy:ys.length=n):EqA P T (xs.map ni) (ys.map ni) (decide (xs=ys)):=fun w=>by
 unfold aOk at h
 split at h
 · rename_i k e hu
   simp only[Bool.and_eq_true]at h
   obtain⟨h1,h2,h3,h4⟩:=h
   have h1:=Nat.eq_of_beq_eq_true h1
   have h3:=Nat.eq_of_beq_eq_true h3
   subst h1
   obtain⟨i,hi⟩:=Option.isSome_iff_exists.1 h4
   rw[kv_ni,kv_ni]
   show(Op.equalIn 10000 T _ _).run P w=_
   rw[run_equalIn_array w 9999 _ _ hu hi,h3,List.range_eq_range']
   exact eqItems_ints 9998 (iT_of h2) k 0 xs ys [] [] hx hy rfl rfl
 · cases h
end
end Go.Proofs.YtfdfbenejkmnlaaGreatDoor.E
namespace Go.Proofs.YtfdfbenejkmnlaaGreatDoor.E
open Go.RowKit
set_option linter.unusedVariables false
section
variable {x y b s:Int} {p q:Int×Int}
def cI (x y:Int):Int:=if x<y then -1 else if x>y then 1 else 0
theorem e_ccmp (x y:Int):Pure PP 72 [ni x,ni y] (ni (cI x y)):=by
 unfold cI
 by_cases h:x<y
 · rw[if_pos h]
   exact tr [cl (e_nan x),cl (e_nan y),nf,nf,ye (t:=decide (x<y)) (decide_eq_true h)] (by kernel_rfl)
 · rw[if_neg h]
   by_cases g:x>y
   · rw[if_pos g]
     exact tr [cl (e_nan x),cl (e_nan y),nf,nf,na (t:=decide (x<y)) (decide_eq_false h),ye (t:=decide (x>y)) (decide_eq_true g)] (by kernel_rfl)
   · rw[if_neg g]
     exact tr [cl (e_nan x),cl (e_nan y),nf,nf,na (t:=decide (x<y)) (decide_eq_false h),na (t:=decide (x>y)) (decide_eq_false g)] (by kernel_rfl)
def orI (x y:Int):Int:=if x=0 then y else x
noncomputable abbrev fcor:Func:=fnOf PP 38
theorem e_or (x y:Int):Pure PP 38 [zl [x,y]] (ni (orI x y)):=by
 unfold orI
 let X:Nat→St:=fun i=>at_ fcor [(3,ni 0),(6,zl [x,y]),(7,ni 2),(8,ni i)] []
 refine pf (by kernel_rfl) (.to mo_ [] [3,6,7,8] [] 0 [] (td':=lp fcor 0) (σ':=X 0) ?_ (by kernel_rfl))
 by_cases h:x=0
 · rw[if_pos h]
   refine .to mo_ [] [3,6,7,8] [] 0 [yt,.sel (zs [x,y]) 0 [ni x] rfl,na (t:=x != 0) (by simp[h])] (td':=lp fcor 0) (σ':=X 1) ?_ (by kernel_rfl)
   by_cases g:y=0
   · refine .to mo_ [] [3,6,7,8] [] 0 [yt,.sel (zs [x,y]) 1 [ni y] rfl,na (t:=y != 0) (by simp[g])] (td':=lp fcor 0) (σ':=X 2) ?_ (by kernel_rfl)
     rw[g]
     exact fi [nf] (by kernel_rfl) (by kernel_rfl)
   · exact fi [yt,.sel (zs [x,y]) 1 [ni y] rfl,ye (t:=y != 0) (by simp[g])] (by kernel_rfl) (by kernel_rfl)
 · rw[if_neg h]
   exact fi [yt,.sel (zs [x,y]) 0 [ni x] rfl,ye (t:=x != 0) (by simp[h])] (by kernel_rfl) (by kernel_rfl)
/-- A name. -/
def nm (p:Int×Int):List V:=[ni p.1,ni p.2]
def ordN (p q:Int×Int):Int:=orI (cI p.1 q.1) (cI p.2 q.2)
theorem e_order (p q:Int×Int):Pure PP 39 [.ag (nm p),.ag (nm q)] (ni (ordN p q)):=
 tr [cl (e_ccmp p.1 q.1),cl (e_ccmp p.2 q.2),cl (e_or (cI p.1 q.1) (cI p.2 q.2))] (by kernel_rfl)
end
end Go.Proofs.YtfdfbenejkmnlaaGreatDoor.E
