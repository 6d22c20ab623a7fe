/-
 A REGION THAT DRAWS ITS ORDER, AS A FLOW OF VALUES: each operation says what it yields once its operands are there, whatever else was done; the stores come last.
-/
import Derived.Test.YtfdfbenejkmnlaaGreatDoorRows
import Derived.Orders
import Derived.WalkKit
import Derived.WalkSpells
import Derived.Deep.Slices
import Derived.Deep.Draws
import Derived.Lib.Hide
import Derived.Laws.MakeOwn
import Derived.WalkLawsBesides
import Derived.LoopTactic
import Derived.BigQuiet
import Derived.Deep.QuietTactic
import Derived.Deep.LoopGhost
namespace Go.Proofs.YtfdfbenejkmnlaaGreatDoor
open Go.RowKit
/-- How many operations are still to come. -/
def toCome (listed:Array Bool):Nat:=(listed.toList.filter (fun b=> !b)).length
theorem toCome_set {listed:Array Bool} {i:Nat} (h:listed[i]? =some false):toCome (listed.setIfInBounds i true)+1=toCome listed:=by
 obtain⟨l⟩:=listed
 simp only[List.getElem?_toArray]at h
 simp only[toCome,List.setIfInBounds_toArray]
 induction l generalizing i with
 |nil=>simp at h
 |cons b r ih=>
  cases i with
  |zero=>
   simp at h
   subst h
   simp
  |succ i=>
   simp only[List.getElem?_cons_succ]at h
   have:=ih h
   simp only[List.set_cons_succ,List.filter_cons]
   cases b<;>simp<;>omega
theorem ready_of {md:Region.Mode} {ops:Array Oper} {listed:Array Bool} {i:Nat} (h:i∈Region.ready md ops listed):
  i<ops.size∧listed.getD i true=false∧∀ o:Oper,ops[i]? =some o→∀ e∈o.after,Region.binds md e=true→listed.getD e.on false=true:=by
 unfold Region.ready at h
 simp only[List.mem_filter,List.mem_range,Bool.and_eq_true,Bool.not_eq_true']at h
 refine⟨h.1,h.2.1,fun o ho e he hb=> ?_⟩
 have h3:=h.2.2
 rw[ho]at h3
 simp only[Option.map_some,Option.getD_some,Array.all_eq_true',Bool.or_eq_true,Bool.not_eq_true']at h3
 rcases h3 e he with h4|h4
 ·rw[h4]at hb;cases hb
 ·exact h4
theorem ready_nil {md:Region.Mode} {ops:Array Oper} {listed:Array Bool} (hs:listed.size=ops.size) (hback:∀ (i:Nat) (o:Oper),ops[i]? =some o→∀ e∈o.after,Region.binds md e=true→e.on<i) (h:Region.ready md ops listed=[]):
  ∀ i,i<ops.size→listed.getD i true=true:=by
 intro i
 induction i using Nat.strongRecOn with
 |_ i ih=>
  intro hi
  cases hl:listed.getD i true with
  |true=>rfl
  |false=>
   exfalso
   have hm:i∈Region.ready md ops listed:=by
    unfold Region.ready
    simp only[List.mem_filter,List.mem_range,Bool.and_eq_true,Bool.not_eq_true']
    refine⟨hi,hl, ?_⟩
    have ho:ops[i]? =some ops[i]:=Array.getElem?_eq_getElem hi
    rw[ho]
    simp only[Option.map_some,Option.getD_some,Array.all_eq_true',Bool.or_eq_true,Bool.not_eq_true']
    intro e he
    cases hbd:Region.binds md e with
    |false=>exact .inl rfl
    |true=>
    right
    have hlt:=hback i _ ho e he hbd
    have:=ih e.on hlt (by omega)
    rw[Array.getD_eq_getD_getElem?,Array.getElem?_eq_getElem (by omega)]at this⊢
    simpa using this
   rw[h]at hm
   cases hm
theorem getD_ne {L:Array Bool} {i j:Nat} (h:i≠j):(L.setIfInBounds i true).getD j false=L.getD j false:=by
 rw[Array.getD_eq_getD_getElem?,Array.getD_eq_getD_getElem?,Array.getElem?_setIfInBounds,if_neg h]
theorem getD_eq {L:Array Bool} {i:Nat} (h:i<L.size):(L.setIfInBounds i true).getD i false=true:=by
 rw[Array.getD_eq_getD_getElem?,Array.getElem?_setIfInBounds,if_pos rfl,if_pos h]
 rfl
theorem getD_no {L:Array Bool} {i:Nat} (h:L.getD i true=false):L.getD i false=false:=by
 rw[Array.getD_eq_getD_getElem?]at h⊢
 cases hl:L[i]? with
 |none=>rfl
 |some b=>rw[hl]at h;simpa using h
theorem getD_yes {L:Array Bool} {i:Nat} (hs:i<L.size) (h:L.getD i true=true):L.getD i false=true:=by
 rw[Array.getD_eq_getD_getElem?,Array.getElem?_eq_getElem hs]at h⊢
 simpa using h
/-- Every edge goes back. -/
def backB (ops:Array Oper):Bool:=ops.toList.zipIdx.all fun x=>x.1.after.all fun e=> !Region.binds .any e||decide (e.on<x.2)
theorem back_of {ops:Array Oper} (h:backB ops=true):∀ (i:Nat) (o:Oper),ops[i]? =some o→∀ e∈o.after,Region.binds .any e=true→e.on<i:=by
 intro i o ho e he hbd
 unfold backB at h
 rw[List.all_eq_true]at h
 have h1:=h (o,i) (by rw[List.mem_zipIdx_iff_getElem?];simpa using ho)
 rw[Array.all_eq_true']at h1
 have h2:=h1 e he
 rw[hbd]at h2
 exact of_decide_eq_true (by simpa using h2)
end Go.Proofs.YtfdfbenejkmnlaaGreatDoor
namespace Go.Proofs.YtfdfbenejkmnlaaGreatDoor.I
/-- The value of digits. -/
def val:List Int→Int
 |[]=>0
 |d::l=>d+1000000000*val l
/-- Digits are from 0 to 10^9 - 1. -/
def Dig (l:List Int):Prop:=∀ d∈l,0≤d∧d<1000000000
def pw (k:Nat):Int:=1000000000 ^ k
theorem pw_zero:pw 0=1:=rfl
theorem pw_succ (k:Nat):pw (k+1)=1000000000*pw k:=by unfold pw;rw[Int.pow_succ,Int.mul_comm]
theorem pw_add (j k:Nat):pw (j+k)=pw j*pw k:=by unfold pw;rw[Int.pow_add]
theorem pw_pos:∀ k,0<pw k
 |0=>by rw[pw_zero];omega
 |k+1=>by have:=pw_pos k;rw[pw_succ];omega
theorem pw_mono {j k:Nat} (h:j≤k):pw j≤pw k:=by
 obtain⟨m,rfl⟩:=Nat.exists_eq_add_of_le h
 induction m with
 |zero=>exact Int.le_refl _
 |succ m ih=>
  have h1:=ih (by omega)
  have h2:=pw_pos (j+m)
  rw[←Nat.add_assoc,pw_succ]
  omega
theorem val_append:∀ a b:List Int,val (a++b)=val a+pw a.length*val b
 |[],b=>by simp[val,pw_zero]
 |d::a,b=>by
  have:=val_append a b
  simp only[List.cons_append,val,this,List.length_cons,pw_succ]
  grind
theorem val_snoc (a:List Int) (d:Int):val (a++[d])=val a+pw a.length*d:=by rw[val_append];simp[val]
theorem Dig.nil:Dig []:=by intro d h;cases h
theorem Dig.cons {d:Int} {l:List Int} (h0:0≤d) (h1:d<1000000000) (h:Dig l):Dig (d::l):=by
 intro e he
 rcases List.mem_cons.1 he with rfl|he
 ·exact⟨h0,h1⟩
 ·exact h e he
theorem Dig.cons_ {d:Int} {l:List Int} (h:Dig l) (h0:0≤d) (h1:d<1000000000):Dig (d::l):=Dig.cons h0 h1 h
theorem Dig.tail {d:Int} {l:List Int} (h:Dig (d::l)):Dig l:=fun e he=>h e (List.mem_cons_of_mem _ he)
theorem Dig.head {d:Int} {l:List Int} (h:Dig (d::l)):0≤d∧d<1000000000:=h d (by simp)
theorem Dig.append {a b:List Int} (h:Dig a) (g:Dig b):Dig (a++b):=by
 intro e he
 rcases List.mem_append.1 he with he|he
 ·exact h e he
 ·exact g e he
theorem Dig.left {a b:List Int} (h:Dig (a++b)):Dig a:=fun e he=>h e (List.mem_append_left _ he)
theorem Dig.right {a b:List Int} (h:Dig (a++b)):Dig b:=fun e he=>h e (List.mem_append_right _ he)
theorem Dig.snoc {a:List Int} {d:Int} (h:Dig a) (h0:0≤d) (h1:d<1000000000):Dig (a++[d]):=h.append (Dig.cons h0 h1 Dig.nil)
theorem Dig.take {l:List Int} (h:Dig l) (k:Nat):Dig (l.take k):=fun e he=>h e (List.mem_of_mem_take he)
theorem Dig.drop {l:List Int} (h:Dig l) (k:Nat):Dig (l.drop k):=fun e he=>h e (List.mem_of_mem_drop he)
theorem Dig.get {l:List Int} (h:Dig l) {k:Nat} {d:Int} (hk:l[k]? =some d):0≤d∧d<1000000000:=h d (List.mem_of_getElem? hk)
theorem Dig.rep (n:Nat):Dig (List.replicate n 0):=fun e he=>by
 have:=(List.mem_replicate.1 he).2
 omega
theorem val_rep:∀ n,val (List.replicate n 0)=0
 |0=>rfl
 |n+1=>by simp[List.replicate_succ,val,val_rep n]
theorem val_nonneg:∀ {l:List Int},Dig l→0≤val l
 |[],_=>by simp[val]
 |d::l,h=>by
  have h1:=val_nonneg h.tail
  have h2:=h.head
  simp only[val]
  omega
theorem val_lt:∀ {l:List Int},Dig l→val l<pw l.length
 |[],_=>by simp[val,pw_zero]
 |d::l,h=>by
  have h1:=val_lt h.tail
  have h2:=h.head
  simp only[val,List.length_cons,pw_succ]
  omega
/-- The canonical form: no zeros at the end. -/
def Can (l:List Int):Prop:=Dig l∧∀ d,l.getLast? =some d→d≠0
theorem Can.nil:Can []:=⟨Dig.nil,fun d h=>by simp at h⟩
theorem Can.one {d:Int} (h0:0<d) (h1:d<1000000000):Can [d]:=⟨Dig.cons (by omega) h1 Dig.nil,fun e h=>by simp at h;omega⟩
theorem Can.tail {d:Int} {l:List Int} (h:Can (d::l)):Can l:=by
 refine⟨h.1.tail,fun e he=>h.2 e ?_⟩
 cases l with
 |nil=>simp at he
 |cons x r=>rw[List.getLast?_cons_cons];exact he
theorem Can.pos {l:List Int} (h:Can l) (hl:l≠[]):pw (l.length - 1)≤val l:=by
 obtain⟨a,d,rfl⟩:∃ a d,l=a++[d]:=⟨l.dropLast,l.getLast hl,(List.dropLast_concat_getLast hl).symm⟩
 have h1:=h.2 d (by simp)
 have h2:=h.1.right.head
 have h3:=val_nonneg h.1.left
 have h4:=pw_pos a.length
 rw[val_snoc]
 simp only[List.length_append,List.length_singleton,Nat.add_sub_cancel]
 have h5:pw a.length*1≤pw a.length*d:=Int.mul_le_mul_of_nonneg_left (by omega) (by omega)
 omega
theorem Can.zero {l:List Int} (h:Can l) (h0:val l=0):l=[]:=by
 by_cases hl:l=[]
 ·exact hl
 ·have:=h.pos hl
  have:=pw_pos (l.length - 1)
  omega
theorem Can.uniq:∀ {a b:List Int},Can a→Can b→val a=val b→a=b
 |[],b,_,hb,h=>(hb.zero (by simpa[val]using h.symm)).symm
 |d::l,[],ha,_,h=>ha.zero (by simpa[val]using h)
 |d::l,e::r,ha,hb,h=>by
  have h1:=ha.1.head
  have h2:=hb.1.head
  simp only[val]at h
  have h3:d=e:=by omega
  have h4:val l=val r:=by omega
  rw[h3,Can.uniq ha.tail hb.tail h4]
/-- Canonical digits of more value are not fewer. -/
theorem Can.len {a b:List Int} (ha:Can a) (hb:Dig b) (h:val a≤val b):a.length≤b.length:=by
 by_cases h0:a=[]
 ·simp[h0]
 ·have h1:=ha.pos h0
  have h2:=val_lt hb
  rcases Nat.lt_or_ge b.length a.length with h3|h3
  ·have:=pw_mono (show b.length≤a.length - 1 by omega)
   omega
  ·exact h3
/-- Striking zeros at the end. -/
theorem val_take_zeros {l:List Int} {n:Nat} (h:∀ k,n≤k→k<l.length→l[k]? =some 0):val (l.take n)=val l:=by
 conv=>rhs;rw[←List.take_append_drop n l,val_append]
 have:l.drop n=List.replicate (l.length - n) 0:=by
  apply List.ext_getElem?
  intro i
  rw[List.getElem?_drop]
  rcases Nat.lt_or_ge i (l.length - n)with h1|h1
  ·rw[h _ (by omega) (by omega),List.getElem?_replicate,if_pos h1]
  ·rw[List.getElem?_eq_none (by omega),List.getElem?_eq_none (by simp;omega)]
 rw[this,val_rep,Int.mul_zero,Int.add_zero]
theorem can_take {l:List Int} (hd:Dig l) {n:Nat} (hn:n≤l.length) (h:n=0∨∃ d,l[n - 1]? =some d∧d≠0):Can (l.take n):=by
 refine⟨hd.take n,fun d he=> ?_⟩
 rcases h with rfl|⟨e,h1,h2⟩
 ·simp at he
 ·have h0:n≠0:=by
   rintro rfl
   simp at he
  rw[List.getLast?_eq_getElem?,List.length_take,List.getElem?_take,if_pos (by omega),show min n l.length - 1=n - 1 from by omega,h1]at he
  injection he with he
  omega
/-- A number's size in bits. -/
def Bd (k:Nat) (x:Int):Prop:=x.natAbs<2 ^ k
theorem Bd.mono {j k:Nat} {x:Int} (h:Bd j x) (hk:j≤k):Bd k x:=Nat.lt_of_lt_of_le h (Nat.pow_le_pow_right (by omega) hk)
theorem Bd.neg {k:Nat} {x:Int} (h:Bd k x):Bd k (-x):=by unfold Bd at*;omega
theorem Bd.add' {k:Nat} {x y:Int} (h:Bd k x) (g:Bd k y):Bd (k+1) (x+y):=by
 unfold Bd at*
 rw[Nat.pow_succ]
 omega
theorem Bd.mul {j k:Nat} {x y:Int} (h:Bd j x) (g:Bd k y):Bd (j+k) (x*y):=by
 unfold Bd at*
 rw[Int.natAbs_mul,Nat.pow_add]
 rcases Nat.eq_zero_or_pos y.natAbs with h0|h0
 ·rw[h0,Nat.mul_zero]
  exact Nat.mul_pos (Nat.two_pow_pos _) (Nat.two_pow_pos _)
 ·exact Nat.lt_of_lt_of_le (Nat.mul_lt_mul_of_pos_right h h0) (Nat.mul_le_mul_left _ (Nat.le_of_lt g))
theorem Bd.of_le {k:Nat} {x y:Int} (h:Bd k y) (g:x.natAbs≤y.natAbs):Bd k x:=Nat.lt_of_le_of_lt g h
theorem Bd.zero (k:Nat):Bd k 0:=Nat.two_pow_pos k
theorem two_pw:∀ k:Nat,(2:Int) ^ k≤pw k
 |0=>by simp[pw_zero]
 |k+1=>by
  have:=two_pw k
  have h2:(0:Int)<2 ^ k:=Int.pow_pos (by omega)
  rw[pw_succ,Int.pow_succ]
  omega
/-- So many bits, so many digits. -/
theorem Bd.len {k:Nat} {l:List Int} (hc:Can l) {x:Int} (h:Bd k x) (hv:val l=(x.natAbs:Int)):l.length≤k:=by
 by_cases h0:l=[]
 ·simp[h0]
 ·have h1:=hc.pos h0
  unfold Bd at h
  rcases Nat.lt_or_ge k l.length with h3|h3
  ·have h4:=pw_mono (show k≤l.length - 1 by omega)
   have h5:=two_pw k
   have h6:((2 ^ k:Nat):Int)=(2:Int) ^ k:=by simp
   omega
  ·exact h3
theorem take_snoc {a:List Int} {k:Nat} {d:Int} (h:a[k]? =some d):a.take (k+1)=a.take k++[d]:=by
 have h1:=List.getElem?_eq_some_iff.1 h
 rw[List.take_succ_eq_append_getElem h1.1,h1.2]
theorem val_take_succ {a:List Int} {k:Nat} {d:Int} (h:a[k]? =some d):val (a.take (k+1))=val (a.take k)+pw k*d:=by
 have h1:=(List.getElem?_eq_some_iff.1 h).1
 rw[take_snoc h,val_snoc,List.length_take,Nat.min_eq_left (by omega)]
theorem val_take_over {a:List Int} {k:Nat} (h:a.length≤k):val (a.take k)=val a:=by rw[List.take_of_length_le h]
theorem drop_cons {a:List Int} {k:Nat} {d:Int} (h:a[k]? =some d):a.drop k=d::a.drop (k+1):=by
 have h1:=List.getElem?_eq_some_iff.1 h
 rw[List.drop_eq_getElem_cons h1.1,h1.2]
theorem val_drop_succ {a:List Int} {k:Nat} {d:Int} (h:a[k]? =some d):val (a.drop k)=d+1000000000*val (a.drop (k+1)):=by rw[drop_cons h];rfl
theorem val_split (a:List Int) {k:Nat} (h:k≤a.length):val a=val (a.take k)+pw k*val (a.drop k):=by
 conv=>lhs;rw[←List.take_append_drop k a,val_append,List.length_take,Nat.min_eq_left h]
/-- The digit at a place, 0 behind the last. -/
def dg (b:List Int) (k:Nat):Int:=b[k]?.getD 0
theorem val_take_dg (b:List Int) (k:Nat):val (b.take (k+1))=val (b.take k)+pw k*dg b k:=by
 unfold dg
 rcases Nat.lt_or_ge k b.length with h|h
 ·rw[val_take_succ (List.getElem?_eq_getElem h),List.getElem?_eq_getElem h];rfl
 ·rw[val_take_over (by omega),val_take_over h,List.getElem?_eq_none h];simp
theorem dg_some {b:List Int} {k:Nat} {e:Int} (h:b[k]? =some e):dg b k=e:=by unfold dg;rw[h];rfl
theorem dg_none {b:List Int} {k:Nat} (h:b.length≤k):dg b k=0:=by unfold dg;rw[List.getElem?_eq_none h];rfl
theorem dg_bd {b:List Int} (h:Dig b) (k:Nat):0≤dg b k∧dg b k<1000000000:=by
 unfold dg
 rcases Nat.lt_or_ge k b.length with hk|hk
 ·rw[List.getElem?_eq_getElem hk];exact h.get (List.getElem?_eq_getElem hk)
 ·rw[List.getElem?_eq_none hk];simp
/-- One step of an addition. -/
theorem plus_step {a b r:List Int} {k:Nat} {c v c':Int} (hr:r.length=k) (h:val r+pw k*c=val (a.take k)+val (b.take k)) (hv:v+1000000000*c'=dg a k+dg b k+c):
  val (r++[v])+pw (k+1)*c'=val (a.take (k+1))+val (b.take (k+1)):=by
 rw[val_snoc,hr,pw_succ,val_take_dg a k,val_take_dg b k]
 grind
/-- One step of a subtraction. -/
theorem minus_step {a b r:List Int} {k:Nat} {c v c':Int} (hr:r.length=k) (h:val r - pw k*c=val (a.take k) - val (b.take k)) (hv:v - 1000000000*c'=dg a k - dg b k - c):
  val (r++[v]) - pw (k+1)*c'=val (a.take (k+1)) - val (b.take (k+1)):=by
 rw[val_snoc,hr,pw_succ,val_take_dg a k,val_take_dg b k]
 grind
/-- A subtraction of what is not more leaves no borrow. -/
theorem minus_last {a b r:List Int} {c:Int} (hr:r.length=a.length) (h:val r - pw a.length*c=val (a.take a.length) - val (b.take a.length)) (hb:b.length≤a.length) (hd:Dig r) (hle:val b≤val a) (h0:0≤c):c=0:=by
 rw[val_take_over (Nat.le_refl _),val_take_over hb]at h
 have h1:=val_lt hd
 rw[hr]at h1
 have h2:=pw_pos a.length
 by_cases h3:1≤c
 ·have h4:pw a.length*1≤pw a.length*c:=Int.mul_le_mul_of_nonneg_left h3 (by omega)
  omega
 ·omega
/-- One step of a product with a digit. -/
theorem scale_step {a r:List Int} {k:Nat} {c v c' m:Int} (hr:r.length=k) (h:val r+pw k*c=val (a.take k)*m) (hv:v+1000000000*c'=dg a k*m+c):
  val (r++[v])+pw (k+1)*c'=val (a.take (k+1))*m:=by
 rw[val_snoc,hr,pw_succ,val_take_dg a k]
 grind
/-- One step of a division by a digit, from the top. -/
theorem short_step {a q:List Int} {k:Nat} {d m rest q' rest':Int} (hd:a[k]? =some d) (h:val (a.drop (k+1))=val q*m+rest) (hv:q'*m+rest'=rest*1000000000+d):
  val (a.drop k)=val (q'::q)*m+rest':=by
 rw[val_drop_succ hd]
 simp only[val]
 grind
theorem val_set:∀ {l:List Int} {k:Nat} {y:Int} (x:Int),l[k]? =some y→val (l.set k x)=val l+pw k*(x - y)
 |[],k,y,x,h=>by simp at h
 |d::l,0,y,x,h=>by
  simp at h
  subst h
  simp only[List.set_cons_zero,val,pw_zero]
  omega
 |d::l,k+1,y,x,h=>by
  simp only[List.getElem?_cons_succ]at h
  have:=val_set x h
  simp only[List.set_cons_succ,val,this,pw_succ]
  grind
theorem Dig.set {l:List Int} (h:Dig l) {k:Nat} {x:Int} (h0:0≤x) (h1:x<1000000000):Dig (l.set k x):=fun e he=>by
 rcases List.mem_or_eq_of_mem_set he with h2|rfl
 ·exact h e h2
 ·exact⟨h0,h1⟩
/-- One step of a product of two numbers. -/
theorem mul_step {b out:List Int} {i k:Nat} {A B0 c d e y v c':Int} (hy:out[i+k]? =some y) (h:val out+c*pw (i+k)=A*B0+d*val (b.take k)*pw i) (he:b[k]? =some e)
  (hv:v=y+d*e+c):val (out.set (i+k) (v - c'*1000000000))+c'*pw (i+k+1)=A*B0+d*val (b.take (k+1))*pw i:=by
 rw[val_set _ hy,val_take_succ he,pw_succ]
 have h1:=pw_add i k
 subst hv
 rw[h1]at h⊢
 grind
theorem mul_last {a b out:List Int} {i:Nat} {c d:Int} (hy:out[i+b.length]? =some 0) (h:val out+c*pw (i+b.length)=val (a.take i)*val b+d*val b*pw i) (hd:a[i]? =some d):
  val (out.set (i+b.length) c)=val (a.take (i+1))*val b:=by
 rw[val_set _ hy,val_take_succ hd]
 grind
theorem drop_set {l:List Int} {k m:Nat} {x:Int} (h:k<m):(l.set k x).drop m=l.drop m:=by
 rw[List.drop_set,if_pos h]
theorem get_drop_rep {l:List Int} {m n:Nat} (h:l.drop m=List.replicate (n+1) 0):l[m]? =some 0:=by
 have:=congrArg (fun l=>l[0]?) h
 simpa using this
end Go.Proofs.YtfdfbenejkmnlaaGreatDoor.I
namespace Go.Proofs.YtfdfbenejkmnlaaGreatDoor.W
open Go.RowKit
/-- The byte under the flip. -/
def fx (neg:Bool) (b:UInt8):UInt8:=if neg then 255 - b else b
theorem sub255 (b:UInt8):(255 - b).toNat=255 - b.toNat:=by
 have:=b.toNat_lt
 rw[UInt8.toNat_sub]
 have e:(255:UInt8).toNat=255:=rfl
 rw[e];omega
theorem fx_toNat (neg:Bool) (b:UInt8):(fx neg b).toNat=if neg then 255 - b.toNat else b.toNat:=by
 unfold fx;cases neg<;>simp[sub255]
theorem fx_fx (neg:Bool) (b:UInt8):fx neg (fx neg b)=b:=by
 apply UInt8.toNat_inj.1
 have:=b.toNat_lt
 rw[fx_toNat,fx_toNat];cases neg<;>simp;omega
theorem fx_map (neg:Bool) (l:List UInt8):(l.map (fx neg)).map (fx neg)=l:=by
 rw[List.map_map]
 conv=>rhs;rw[←List.map_id l]
 exact List.map_congr_left fun b _=>fx_fx neg b
/-- k bytes of m, the most significant first. -/
def be:Nat→Nat→List UInt8
 |0,_=>[]
 |k+1,m=>UInt8.ofNat (m / 256 ^ k)::be k m
@[simp] theorem be_length:∀ k m,(be k m).length=k
 |0,_=>rfl
 |k+1,m=>by simp[be,be_length k m]
/-- The number that bytes are, the most significant first. -/
def val:List UInt8→Nat
 |[]=>0
 |b::r=>b.toNat*256 ^ r.length+val r
theorem val_lt:∀ l,val l<256 ^ l.length
 |[]=>by simp[val]
 |b::r=>by
  have h1:=val_lt r
  have h2:=b.toNat_lt
  simp only[val,List.length_cons,Nat.pow_succ]
  have:b.toNat*256 ^ r.length≤255*256 ^ r.length:=Nat.mul_le_mul_right _ (by omega)
  omega
theorem ofNat_toNat (n:Nat):(UInt8.ofNat n).toNat=n % 256:=by simp
theorem val_be:∀ k m,val (be k m)=m % 256 ^ k
 |0,m=>by simp[be,val,Nat.mod_one]
 |k+1,m=>by
  simp only[be,val,be_length,ofNat_toNat,val_be k m]
  rw[Nat.pow_succ,Nat.mod_mul,Nat.mul_comm,Nat.add_comm]
theorem be_congr:∀ (k:Nat) (a b:Nat),a % 256 ^ k=b % 256 ^ k→be k a=be k b
 |0,_,_,_=>rfl
 |k+1,a,b,h=>by
  rw[Nat.pow_succ,Nat.mod_mul,Nat.mod_mul]at h
  have hp:0<256 ^ k:=Nat.pow_pos (by omega)
  have ha:=Nat.mod_lt a hp
  have hb:=Nat.mod_lt b hp
  have h1:a % 256 ^ k=b % 256 ^ k:=by
   have:=congrArg (· % 256 ^ k) h
   simpa[Nat.add_mul_mod_self_left]using this
  have h2:a / 256 ^ k % 256=b / 256 ^ k % 256:=by
   rw[h1]at h
   have h3:256 ^ k*(a / 256 ^ k % 256)=256 ^ k*(b / 256 ^ k % 256):=by omega
   exact Nat.eq_of_mul_eq_mul_left hp h3
  simp only[be]
  rw[be_congr k a b h1]
  congr 1
  apply UInt8.toNat_inj.1
  simp only[ofNat_toNat,h2]
theorem be_val:∀ l:List UInt8,be l.length (val l)=l
 |[]=>rfl
 |b::r=>by
  have h1:=val_lt r
  have h2:=b.toNat_lt
  have hp:0<256 ^ r.length:=Nat.pow_pos (by omega)
  simp only[List.length_cons,be,val]
  have e1:(b.toNat*256 ^ r.length+val r) / 256 ^ r.length=b.toNat:=by
   rw[Nat.mul_comm,Nat.mul_add_div hp,Nat.div_eq_of_lt h1,Nat.add_zero]
  rw[e1,be_congr r.length (b.toNat*256 ^ r.length+val r) (val r) (by rw[Nat.mul_comm,Nat.mul_add_mod]),be_val r]
  congr 1
  exact UInt8.toNat_inj.1 (by simp)
/-- k is the least number of bytes of m. -/
def Wid (k m:Nat):Prop:=m<256 ^ k∧(k=0∨256 ^ (k - 1)≤m)
theorem Wid.uniq {k j m:Nat} (h:Wid k m) (g:Wid j m):k=j:=by
 rcases Nat.lt_trichotomy k j with hlt|e|hgt
 ·rcases g.2 with rfl|h2
  ·omega
  ·have:=Nat.pow_le_pow_right (show 0<256 by omega) (show k≤j - 1 by omega)
   have:=h.1
   omega
 ·exact e
 ·rcases h.2 with rfl|h2
  ·omega
  ·have:=Nat.pow_le_pow_right (show 0<256 by omega) (show j≤k - 1 by omega)
   have:=g.1
   omega
/-- The least number of bytes, to at most f. -/
def widF:Nat→Nat→Nat
 |0,_=>0
 |f+1,m=>if 256 ^ f≤m then f+1 else widF f m
theorem widF_wid:∀ (f m:Nat),m<256 ^ f→Wid (widF f m) m
 |0,m,h=>⟨h,.inl rfl⟩
 |f+1,m,h=>by
  unfold widF
  split
  ·exact⟨h,.inr (by simpa)⟩
  ·exact widF_wid f m (by omega)
theorem widF_le:∀ (f m:Nat),widF f m≤f
 |0,_=>Nat.le_refl _
 |f+1,m=>by unfold widF;split;omega;have:=widF_le f m;omega
def wid (m:Nat):Nat:=widF 8 m
theorem wid_le (m:Nat):wid m≤8:=widF_le 8 m
theorem wid_wid (m:Nat) (h:m<18446744073709551616):Wid (wid m) m:=widF_wid 8 m (by simpa using h)
theorem wid_of {k m:Nat} (h:m<18446744073709551616) (hk:Wid k m):wid m=k:=(wid_wid m h).uniq hk
/-- An integer of 64 bits. -/
def Is64 (n:Int):Prop:= -9223372036854775808≤n∧n≤9223372036854775807
def mag (n:Int):Nat:=if n<0 then(-1 - n).toNat else n.toNat
theorem mag_lt {n:Int} (h:Is64 n):mag n<9223372036854775808:=by unfold mag Is64 at*;split<;>omega
def neg (n:Int):Bool:=decide (n<0)
/-- The encoding of an integer. -/
def enc (n:Int):List UInt8:=fx (neg n) (UInt8.ofNat (128+wid (mag n)))::(be (wid (mag n)) (mag n)).map (fx (neg n))
theorem enc_length (n:Int):(enc n).length=wid (mag n)+1:=by simp[enc]
theorem enc_le (n:Int):1≤(enc n).length∧(enc n).length≤9:=by
 have:=wid_le (mag n);rw[enc_length];omega
/-- Decoding an integer: the integer, the number of bytes, the error (0 none, 2 form, 3 more). -/
def dec:List UInt8→Int×Nat×Int
 |[]=>(0,0,3)
 |h::t=>
  let ng:Bool:=decide (h.toNat<128)
  let k:=(fx ng h).toNat - 128
  if 8<k then(0,0,2)
  else if t.length<k then(0,0,3)
  else
   let m:=val ((t.take k).map (fx ng))
   if(0<k∧m<256 ^ (k - 1))∨9223372036854775808≤m then(0,0,2)
   else(if ng then -1 - (m:Int)else(m:Int),k+1,0)
theorem head_nat (n:Int):(fx (neg n) (UInt8.ofNat (128+wid (mag n)))).toNat=if n<0 then 127 - wid (mag n)else 128+wid (mag n):=by
 have:=wid_le (mag n)
 rw[fx_toNat,ofNat_toNat,Nat.mod_eq_of_lt (by omega)]
 unfold neg
 by_cases h:n<0<;>simp[h];omega
theorem dec_enc {n:Int} (h:Is64 n) (t:List UInt8):dec (enc n++t)=(n,(enc n).length,0):=by
 have hm:=mag_lt h
 have hw:=wid_le (mag n)
 have hW:=wid_wid (mag n) (by omega)
 have hh:=head_nat n
 rw[enc_length]
 unfold enc
 simp only[List.cons_append,dec]
 have hng:decide ((fx (neg n) (UInt8.ofNat (128+wid (mag n)))).toNat<128)=neg n:=by
  rw[hh];unfold neg;by_cases hn:n<0<;>simp[hn];omega
 rw[hng,fx_fx,ofNat_toNat,Nat.mod_eq_of_lt (by omega),Nat.add_sub_cancel_left,if_neg (by omega)]
 have hlen:((be (wid (mag n)) (mag n)).map (fx (neg n))++t).length=wid (mag n)+t.length:=by simp
 rw[if_neg (by omega)]
 have htake:(((be (wid (mag n)) (mag n)).map (fx (neg n))++t).take (wid (mag n))).map (fx (neg n))=be (wid (mag n)) (mag n):=by
  rw[List.take_left' (by simp),fx_map]
 rw[htake,val_be,Nat.mod_eq_of_lt hW.1]
 have hc:¬((0<wid (mag n)∧mag n<256 ^ (wid (mag n) - 1))∨9223372036854775808≤mag n):=by
  rintro (⟨h0,h1⟩|h1)
  ·rcases hW.2 with h2|h2<;>omega
  ·omega
 rw[if_neg hc]
 unfold neg mag
 by_cases hn:n<0
 ·simp[hn];omega
 ·simp[hn];omega
theorem dec_short {n:Int} (h:Is64 n) (i:Nat) (hi:i<(enc n).length):dec ((enc n).take i)=(0,0,3):=by
 have hm:=mag_lt h
 have hw:=wid_le (mag n)
 have hh:=head_nat n
 rw[enc_length]at hi
 cases i with
 |zero=>simp[dec]
 |succ i=>
  unfold enc
  simp only[List.take_succ_cons,dec]
  have hng:decide ((fx (neg n) (UInt8.ofNat (128+wid (mag n)))).toNat<128)=neg n:=by
   rw[hh];unfold neg;by_cases hn:n<0<;>simp[hn];omega
  rw[hng,fx_fx,ofNat_toNat,Nat.mod_eq_of_lt (by omega),Nat.add_sub_cancel_left,if_neg (by omega),if_pos]
  simp;omega
/-- What a decoding that went well says. -/
theorem dec_ok {b:List UInt8} {n:Int} {u:Nat} (h:dec b=(n,u,0)):Is64 n∧u≤b.length∧b.take u=enc n∧u=(enc n).length:=by
 cases b with
 |nil=>simp[dec]at h
 |cons a t=>
  simp only[dec]at h
  by_cases h1:8<(fx (decide (a.toNat<128)) a).toNat - 128
  ·rw[if_pos h1]at h;simp at h
  rw[if_neg h1]at h
  by_cases h2:t.length<(fx (decide (a.toNat<128)) a).toNat - 128
  ·rw[if_pos h2]at h;simp at h
  rw[if_neg h2]at h
  obtain⟨g,hg⟩:∃ g:Bool,g=decide (a.toNat<128):=⟨_,rfl⟩
  rw[←hg]at h h1 h2
  obtain⟨k,hk⟩:∃ k:Nat,k=(fx g a).toNat - 128:=⟨_,rfl⟩
  rw[←hk]at h h1 h2
  obtain⟨ds,hds⟩:∃ ds,ds=(t.take k).map (fx g):=⟨_,rfl⟩
  rw[←hds]at h
  have hlen:ds.length=k:=by rw[hds];simp;omega
  by_cases h3:(0<k∧val ds<256 ^ (k - 1))∨9223372036854775808≤val ds
  ·rw[if_pos h3]at h;simp at h
  rw[if_neg h3]at h
  simp only[Prod.mk.injEq,and_true]at h
  obtain⟨hn,hu⟩:=h
  have hv:=val_lt ds
  rw[hlen]at hv
  have hWk:Wid k (val ds):=⟨hv,by omega⟩
  have hneg:neg n=g:=by
   rw[←hn];unfold neg;cases g<;>simp;omega
  have hmag:mag n=val ds:=by
   rw[←hn];unfold mag;cases g<;>simp<;>(try split)<;>omega
  have hwid:wid (mag n)=k:=by rw[hmag];exact wid_of (by omega) hWk
  have ha:128≤(fx g a).toNat:=by
   rw[fx_toNat,hg];have:=a.toNat_lt
   by_cases h4:a.toNat<128<;>simp[h4]<;>omega
  have hI:Is64 n:=by
   rw[←hn];unfold Is64;cases g<;>simp<;>omega
  refine⟨hI,by simp;omega, ?_,by rw[enc_length,hwid];omega⟩
  rw[←hu]
  unfold enc
  rw[hwid,hneg,hmag,List.take_succ_cons]
  congr 1
  ·rw[←fx_fx g a];congr 1
   apply UInt8.toNat_inj.1
   rw[ofNat_toNat];have:=(fx g a).toNat_lt;omega
  ·have:=be_val ds
   rw[hlen]at this
   rw[this,hds,fx_map]
theorem dec_err {b:List UInt8} {n:Int} {u:Nat} {e:Int} (h:dec b=(n,u,e)):e=0∨(n=0∧u=0∧(e=2∨e=3)):=by
 cases b with
 |nil=>simp[dec]at h;omega
 |cons a t=>
  simp only[dec]at h
  split at h
  ·simp at h;omega
  split at h
  ·simp at h;omega
  split at h
  ·simp at h;omega
  ·simp at h;omega
theorem be_get:∀ (k m i:Nat) (h:i<k),(be k m)[i]'(by simpa using h)=UInt8.ofNat (m / 256 ^ (k - 1 - i))
 |k+1,m,0,_=>by simp[be]
 |k+1,m,i+1,h=>by
  have:=be_get k m i (by omega)
  simp only[be,List.getElem_cons_succ,this]
  congr 3;omega
theorem enc_step (n:Int) {k j:Nat} (hk:wid (mag n)=k) (hj:0<j) (hjk:j≤k):
  (enc n).take (k - (j - 1)+1)=(enc n).take (k - j+1)++[fx (neg n) (UInt8.ofNat (mag n / 256 ^ (j - 1)))]:=by
 have hl:=enc_length n
 rw[show k - (j - 1)+1=(k - j+1)+1 from by omega,List.take_succ_eq_append_getElem (by omega)]
 congr 2
 simp only[enc,List.getElem_cons_succ,List.getElem_map,hk]
 rw[be_get _ _ _ (by omega)]
 congr 3;congr 1;omega
theorem enc_head (n:Int) {k:Nat} (hk:wid (mag n)=k):(enc n).take 1=[fx (neg n) (UInt8.ofNat (128+k))]:=by
 simp[enc,hk]
theorem enc_all (n:Int) {k:Nat} (hk:wid (mag n)=k):(enc n).take (k+1)=enc n:=by
 rw[List.take_of_length_le];rw[enc_length,hk];omega
theorem pow256 (i:Nat):2 ^ (8*i)=256 ^ i:=by rw[Nat.pow_mul]
theorem div256 (M i:Nat):(M:Int) / 2 ^ (8*i)=((M / 256 ^ i:Nat):Int):=by
 rw[←pow256];simp
theorem u64_neg (n:Int) (h:Is64 n) (h0:n<0):bits BinOp.xor IntKind.u64 IntKind.u64.max (IntKind.u64.wrap n)=(mag n:Int):=by
 have e:IntKind.u64.wrap n=n+18446744073709551616:=by
  rw[IntKind.wrap_u64];unfold Is64 at h;omega
 have em:IntKind.u64.max=18446744073709551615:=by decide+kernel
 have hb:=h.1
 rw[e,em,u64_xor _ _ (by omega) (by omega) (by omega) (by omega)]
 have e1:(18446744073709551615:Int).toNat=2 ^ 64 - 1:=by decide+kernel
 rw[e1]
 have hx:∀ y:Nat,y<2 ^ 64→(2 ^ 64 - 1) ^^^ y=2 ^ 64 - 1 - y:=by
  intro y hy
  apply Nat.eq_of_testBit_eq
  intro i
  rw[Nat.testBit_xor,Nat.testBit_two_pow_sub_one]
  have:=Nat.testBit_two_pow_sub_succ hy i
  rw[show 2 ^ 64 - 1 - y=2 ^ 64 - (y+1)from by omega,this]
  by_cases hi:i<64
  ·simp[hi]
  ·have:y.testBit i=false:=Nat.testBit_lt_two_pow (Nat.lt_of_lt_of_le hy (Nat.pow_le_pow_right (by omega) (by omega)))
   simp[hi,this]
 rw[hx _ (by omega)]
 unfold mag
 rw[if_pos h0]
 omega
theorem u64_pos (n:Int) (h:Is64 n) (h0:¬n<0):IntKind.u64.wrap n=(mag n:Int):=by
 rw[IntKind.wrap_u64];unfold Is64 at h;unfold mag;rw[if_neg h0];omega
theorem xor255:∀ y:Nat,y<256→y ^^^ 255=255 - y:=by decide+kernel
theorem xor255_u8 (b:UInt8):bits BinOp.xor IntKind.u8 (b.toNat:Int) 255=((255 - b:UInt8).toNat:Int):=by
 have:=b.toNat_lt
 rw[u8_xor _ _ (by omega) (by omega) (by omega) (by omega),sub255]
 have e:((b.toNat:Int).toNat ^^^ (255:Int).toNat)=255 - b.toNat:=by
  rw[Int.toNat_natCast];exact xor255 _ (by omega)
 rw[e]
theorem xor0_u8 (b:UInt8):bits BinOp.xor IntKind.u8 (b.toNat:Int) 0=(b.toNat:Int):=by
 have:=b.toNat_lt
 rw[u8_xor _ _ (by omega) (by omega) (by omega) (by omega)]
 have e:((b.toNat:Int).toNat ^^^ (0:Int).toNat)=b.toNat:=by rw[Int.toNat_natCast];exact Nat.xor_zero _
 rw[e]
/-- The number that flips a byte. -/
def fl (ng:Bool):Int:=if ng then 255 else 0
theorem xor_fl (ng:Bool) (b:UInt8):bits BinOp.xor IntKind.u8 (b.toNat:Int) (fl ng)=((fx ng b).toNat:Int):=by
 cases ng
 ·exact xor0_u8 b
 ·exact xor255_u8 b
theorem wrap_u8_nat (m:Nat):IntKind.u8.wrap (m:Int)=((UInt8.ofNat m).toNat:Int):=by
 rw[IntKind.wrap_u8',ofNat_toNat];omega
def encI (l:List Int):List UInt8:=enc l.length++l.flatMap enc
theorem take_flat {α:Type} (f:α→List UInt8) {l:List α} {k:Nat} {x:α} (h:l[k]? =some x):(l.take (k+1)).flatMap f=(l.take k).flatMap f++f x:=by
 have h1:=List.getElem?_eq_some_iff.1 h
 rw[List.take_succ_eq_append_getElem h1.1,h1.2,List.flatMap_append]
 simp
theorem flat_le {α:Type} (f:α→List UInt8) (l:List α) (k:Nat):((l.take k).flatMap f).length≤(l.flatMap f).length:=by
 conv=>rhs;rw[←List.take_append_drop k l,List.flatMap_append,List.length_append]
 omega
theorem encI_le (l:List Int):(encI l).length≤9+9*l.length:=by
 unfold encI
 rw[List.length_append]
 have h1:=(enc_le l.length).2
 have h2:(l.flatMap enc).length≤9*l.length:=by
  induction l with
  |nil=>simp
  |cons a r ih=>simp only[List.flatMap_cons,List.length_append,List.length_cons];have:=(enc_le a).2;have:=(enc_le r.length).2;have:=ih this;omega
 omega
end Go.Proofs.YtfdfbenejkmnlaaGreatDoor.W
namespace Go.Proofs.YtfdfbenejkmnlaaGreatDoor
open Go.RowKit
section
end
theorem own_pos {w:World} {base e size n:Nat} {v:Value} {xs:List Value} (h:w.ownsRow base e size v n xs) (hn:0<n):∃ g c,v= .slice (some ⟨g,0,none⟩) n c∧n≤c∧c≤maxLen∧base≤g∧g<w.heap.size:=by
 rcases h.2 with⟨rfl,rfl⟩|⟨g,cap,cur,rfl,hb,hg,h1,h2,_⟩
 ·omega
 ·exact⟨g,cap,rfl,h1,h2,hb,(Array.getElem?_eq_some_iff.1 hg).1⟩
/-- Cells that lie at a slice's address, as the laws on append ask. -/
theorem own_cells {w:World} {base e size n g c:Nat} {xs:List Value} (h:w.ownsRow base e size (.slice (some ⟨g,0,none⟩) n c) n xs):∀ j u,xs[j]? =some u→w.cell? ((⟨g,0,none⟩:Addr).add j)=some u:=h.cells (g:=g) rfl
end Go.Proofs.YtfdfbenejkmnlaaGreatDoor
namespace Go.Proofs.YtfdfbenejkmnlaaGreatDoor
open Go.RowKit
/-- Numbers as cells. -/
def il (l:List Int):List Value:=l.map (Value.int .i64)
section
end
/-- A number with a sign. -/
def sg (ng:Bool) (x:Int):Int:=if ng then -x else x
end Go.Proofs.YtfdfbenejkmnlaaGreatDoor
namespace Go.Proofs.YtfdfbenejkmnlaaGreatDoor
open Go.RowKit
/-- So many zeros, as cells. -/
def zs (n:Nat):Array Value:=(il (List.replicate n 0)).toArray
section
end
section
end
/-- A store of a value of which it is only known that it is one cell. -/
theorem run_store_one (P:Program) (w:World) (a:Addr) (v:Value) (m:Mode) (hv:v.oneCell'=true):(store a v m).run P w=stored P w a v m:=run_store P w a v m hv
end Go.Proofs.YtfdfbenejkmnlaaGreatDoor
namespace Go.Proofs.YtfdfbenejkmnlaaGreatDoor
open Go.RowKit
/-- The denominator as it is kept: 0 where it is 1. -/
def dq (r:Rat):Int:=if r.den=1 then 0 else r.den
theorem dq_one {r:Rat} (h:r.den=1):dq r=0:=by unfold dq;rw[if_pos h]
theorem dq_more {r:Rat} (h:r.den≠1):dq r=r.den:=by unfold dq;rw[if_neg h]
theorem dq_nonneg (r:Rat):0≤dq r:=by
 unfold dq
 split<;>omega
section
end
/-- Bits of a rational. -/
def Bq (k:Nat) (r:Rat):Prop:=I.Bd k r.num∧I.Bd k r.den
end Go.Proofs.YtfdfbenejkmnlaaGreatDoor
namespace Go.Proofs.YtfdfbenejkmnlaaGreatDoor
open Go.RowKit
/-- The operations that must be done ahead of one. -/
def predsOf (ops:Array Oper) (i:Nat):List Nat:=match ops[i]? with
 |none=>[]
 |some o=>(o.after.toList.filter (fun e=>Region.binds .any e)).map (·.on)
def covB (ops:Array Oper):Nat→List Nat→Bool
 |0,_=>true
 |j+1,S=>S.contains j&&covB ops j (S++predsOf ops j)
/-- Every operation from n on waits for all that stand before it. -/
def fullB (ops:Array Oper) (n:Nat):Bool:=(List.range ops.size).all fun i=>decide (i<n)||covB ops i (predsOf ops i)
def Closed (ops:Array Oper) (L:Array Bool):Prop:=∀ i,L.getD i false=true→∀ j∈predsOf ops i,L.getD j false=true
theorem mem_predsOf {ops:Array Oper} {i j:Nat}:j∈predsOf ops i↔∃ o,ops[i]? =some o∧∃ e∈o.after,Region.binds .any e=true∧e.on=j:=by
 unfold predsOf
 cases h:ops[i]? with
 |none=>simp
 |some o=>simp[and_assoc]
theorem cov_done {ops:Array Oper} {L:Array Bool} (hc:Closed ops L):∀ (k:Nat) (S:List Nat),covB ops k S=true→(∀ j∈S,L.getD j false=true)→∀ j,j<k→L.getD j false=true
 |0,_,_,_,_,h=>absurd h (Nat.not_lt_zero _)
 |k+1,S,hb,hS,j,hj=>by
  simp only[covB,Bool.and_eq_true]at hb
  have hk:L.getD k false=true:=hS k (by simpa using hb.1)
  rcases Nat.lt_or_ge j k with h|h
  ·exact cov_done hc k _ hb.2 (fun x hx=>by
    rcases List.mem_append.1 hx with hx|hx
    ·exact hS x hx
    ·exact hc k hk x hx) j h
  ·rw[show j=k by omega];exact hk
theorem full_done {ops:Array Oper} {n:Nat} (hf:fullB ops n=true) {L:Array Bool} (hc:Closed ops L) {i:Nat} (hi:i<ops.size) (hn:n≤i) (hp:∀ j∈predsOf ops i,L.getD j false=true):∀ j,j<i→L.getD j false=true:=by
 unfold fullB at hf
 rw[List.all_eq_true]at hf
 have h1:=hf i (by simpa using hi)
 simp only[Bool.or_eq_true,decide_eq_true_eq]at h1
 rcases h1 with h1|h1
 ·omega
 ·exact cov_done hc i _ h1 hp
theorem closed_set {ops:Array Oper} {L:Array Bool} (hc:Closed ops L) {i:Nat} (hp:∀ j∈predsOf ops i,L.getD j false=true):Closed ops (L.setIfInBounds i true):=by
 intro k hk j hj
 by_cases hij:i=j
 ·subst hij
  by_cases hik:i=k
  ·subst hik
   rw[Array.getD_eq_getD_getElem?,Array.getElem?_setIfInBounds,if_pos rfl]
   split
   ·rfl
   ·have:=hp i hj
    rw[Array.getD_eq_getD_getElem?,Array.getElem?_eq_none (by omega)]at this
    exact this
  ·rw[getD_ne hik]at hk
   have h1:=hc k hk i hj
   rw[Array.getD_eq_getD_getElem?,Array.getElem?_setIfInBounds,if_pos rfl]
   split
   ·rfl
   ·rw[Array.getD_eq_getD_getElem?,Array.getElem?_eq_none (by omega)]at h1
    exact h1
 ·rw[getD_ne hij]
  by_cases hik:i=k
  ·subst hik;exact hp j hj
  ·rw[getD_ne hik]at hk
   exact hc k hk j hj
theorem wanted_of {ops:Array Oper} {o:Oper} {a:Act} {j d:Nat} {want b:Bool} (hg:o.guard=some (j,want)) (hd:(ops[j]?).bind (·.dst)=some d) (he:a.eval (.tmp d)= .bool b):Region.wanted o (yielded ops a.tmps)=(b==want):=by
 have h1:a.tmps[d]? =some (.bool b):=by
  simp only[Act.eval,Array.getD_eq_getD_getElem?]at he
  cases h:a.tmps[d]? with
  |none=>rw[h]at he;cases he
  |some x=>rw[h]at he;simp at he;rw[he]
 unfold Region.wanted
 rw[hg]
 simp only[yielded,hd,Option.bind_some,h1]
 cases b<;>cases want<;>rfl
theorem wanted_none {ops:Array Oper} {o:Oper} {a:Act} (hg:o.guard=none):Region.wanted o (yielded ops a.tmps)=true:=by
 unfold Region.wanted
 rw[hg]
section
end
end Go.Proofs.YtfdfbenejkmnlaaGreatDoor
