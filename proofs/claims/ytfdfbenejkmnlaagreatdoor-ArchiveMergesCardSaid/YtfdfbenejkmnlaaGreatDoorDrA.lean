/-
 NO STEP LESSENS the number of draws: operations.
-/
import Derived.Test.YtfdfbenejkmnlaaGreatDoorFlow
import Derived.Test.YtfdfbenejkmnlaaGreatDoorEmJ
import Derived.Test.YtfdfbenejkmnlaaGreatDoorChecked
import Derived.KernelRfl
import Derived.Lib.SliceRun
import Derived.MapKept
import Derived.Calls

namespace Go.Proofs.YtfdfbenejkmnlaaGreatDoor
theorem q_eq {p q:Int} (hq:q≠0):(Rat.divInt p q).num*q=p*(Rat.divInt p q).den:=
 (Rat.divInt_eq_divInt_iff (by have:=(Rat.divInt p q).den_nz;omega) hq).1 (Rat.num_divInt_den _)
theorem q_dvd {p q:Int} (hq:q≠0):(Rat.divInt p q).num.natAbs ∣ p.natAbs∧(Rat.divInt p q).den ∣ q.natAbs:=by
 have h:=congrArg Int.natAbs (q_eq (p:=p) hq)
 rw[Int.natAbs_mul,Int.natAbs_mul,Int.natAbs_natCast]at h
 have hr:=(Rat.divInt p q).reduced
 exact⟨Nat.Coprime.dvd_of_dvd_mul_right hr ⟨_,h.symm⟩,Nat.Coprime.dvd_of_dvd_mul_left hr.symm ⟨p.natAbs,by rw[h,Nat.mul_comm]⟩⟩
theorem den_ne (r:Rat):(r.den:Int)≠0:=by have:=r.den_nz;omega
theorem q_add (r t:Rat):Rat.divInt (r.num*t.den+t.num*r.den) (r.den*t.den)=r+t:=by
 rw[←Rat.divInt_add_divInt _ _ (den_ne r) (den_ne t),Rat.num_divInt_den,Rat.num_divInt_den]
theorem q_mul (r t:Rat):Rat.divInt (r.num*t.num) (r.den*t.den)=r*t:=by
 rw[←Rat.divInt_mul_divInt,Rat.num_divInt_den,Rat.num_divInt_den]
theorem q_mulx (r t:Rat):Rat.divInt r.num t.den*Rat.divInt t.num r.den=r*t:=by
 rw[Rat.divInt_mul_divInt,←q_mul r t,Int.mul_comm (t.den:Int)]
theorem q_gcd (r t:Rat):Int.gcd ((Rat.divInt r.num t.den).num*(Rat.divInt t.num r.den).num) ((Rat.divInt r.num t.den).den*(Rat.divInt t.num r.den).den)=1:=by
 have h1:=q_dvd (p:=r.num) (den_ne t)
 have h2:=q_dvd (p:=t.num) (den_ne r)
 rw[Int.natAbs_natCast]at h1 h2
 have c1:=(Rat.divInt r.num t.den).reduced
 have c2:=(Rat.divInt t.num r.den).reduced
 have c3:(Rat.divInt r.num t.den).num.natAbs.Coprime (Rat.divInt t.num r.den).den:=(r.reduced.coprime_dvd_left h1.1).coprime_dvd_right h2.2
 have c4:(Rat.divInt t.num r.den).num.natAbs.Coprime (Rat.divInt r.num t.den).den:=(t.reduced.coprime_dvd_left h2.1).coprime_dvd_right h1.2
 have h3:=Nat.Coprime.mul_left (c1.mul_right c3) (c4.mul_right c2)
 rw[←Int.natAbs_mul]at h3
 unfold Int.gcd
 rw[←Int.natCast_mul,Int.natAbs_natCast]
 exact h3
theorem Bd.dvd {k:Nat} {x y:Int} (h:I.Bd k y) (hd:x.natAbs ∣ y.natAbs) (h0:y≠0):I.Bd k x:=h.of_le (Nat.le_of_dvd (by omega) hd)
theorem Bq.mono {j k:Nat} {r:Rat} (h:Bq j r) (hk:j≤k):Bq k r:=⟨h.1.mono hk,h.2.mono hk⟩
theorem Bq.divInt {k:Nat} {p q:Int} (hp:I.Bd k p) (hq:I.Bd k q) (h0:q≠0):Bq k (Rat.divInt p q):=by
 have h:=q_dvd (p:=p) h0
 refine⟨?_,Bd.dvd hq (by rw[Int.natAbs_natCast];exact h.2) h0⟩
 by_cases hp0:p=0
 ·subst hp0
  rw[Rat.zero_divInt]
  exact I.Bd.zero k
 ·exact Bd.dvd hp h.1 hp0
theorem Bq.add {j k:Nat} {r t:Rat} (h:Bq j r) (g:Bq k t):Bq (j+k+1) (r+t):=by
 rw[←q_add]
 exact Bq.divInt ((h.1.mul g.2).add' (by rw[Nat.add_comm];exact g.1.mul h.2)) ((h.2.mul g.2).mono (by omega)) (by have:=den_ne r;have:=den_ne t;exact Int.mul_ne_zero ‹_› ‹_›)
theorem Bq.mul {j k:Nat} {r t:Rat} (h:Bq j r) (g:Bq k t):Bq (j+k) (r*t):=by
 rw[←q_mul]
 exact Bq.divInt (h.1.mul g.1) (h.2.mul g.2) (Int.mul_ne_zero (den_ne r) (den_ne t))
theorem num_zero {r:Rat}:r.num=0↔r=0:=Rat.num_eq_zero
theorem Bq.zero {k:Nat} (hk:0<k):Bq k 0:=⟨I.Bd.zero k,by
 show(1:Nat)<2 ^ k
 exact Nat.one_lt_two_pow (by omega)⟩
end Go.Proofs.YtfdfbenejkmnlaaGreatDoor
namespace Go.Proofs.YtfdfbenejkmnlaaGreatDoor
open Go.RowKit
section
end
/-- The sum of rationals, from the front. -/
def rsum (l:List Rat):Rat:=l.foldl (· + ·) 0
theorem rsum_two (r t:Rat):rsum [r,t]=r+t:=by simp[rsum,Rat.zero_add]
theorem rsum_take {l:List Rat} {i:Nat} {r:Rat} (h:l[i]? =some r):rsum (l.take (i+1))=rsum (l.take i)+r:=by
 have h1:=List.getElem?_eq_some_iff.1 h
 rw[List.take_succ_eq_append_getElem h1.1,h1.2]
 simp[rsum]
end Go.Proofs.YtfdfbenejkmnlaaGreatDoor
namespace Go.Proofs.YtfdfbenejkmnlaaGreatDoor.E
open Go.RowKit
set_option linter.unusedVariables false
set_option linter.unusedSimpArgs false
/-- The canonical digits of a number. -/
def digs (n:Nat):List Int:=if h:n=0 then[]else((n % 1000000000:Nat):Int)::digs (n / 1000000000)
termination_by n
decreasing_by omega
theorem digs_ok (n:Nat):I.Can (digs n)∧I.val (digs n)=(n:Int):=by
 induction n using Nat.strongRecOn with
 | _ n ih =>
   unfold digs
   by_cases h:n=0
   · rw[dif_pos h];subst h;exact⟨I.Can.nil,rfl⟩
   · rw [dif_neg h]
     obtain⟨⟨h1,h2⟩,h3⟩:=ih (n / 1000000000) (by omega)
     refine⟨⟨I.Dig.cons (by omega) (by omega) h1,fun d hd=> ?_⟩, ?_⟩
     · cases hq:digs (n / 1000000000)with
       |nil=>
         rw[hq]at hd h3
         simp only[List.getLast?_singleton,Option.some.injEq]at hd
         simp only[I.val]at h3
         omega
       |cons e r=>
         rw[hq]at hd h2
         rw[List.getLast?_cons_cons]at hd
         exact h2 d hd
     · simp only[I.val,h3]
       omega
/-- Cells. -/
def bo (b:Bool):V:= .k (.bool b)
def ni (x:Int):V:= .k (.int .i64 x)
def zs (l:List Int):List (List V):=l.map fun x=>[ni x]
def zl (l:List Int):V:= .sl (zs l)
abbrev dg (x:Int):V:= .sl (zs (digs x.natAbs))
def dI (x:Int):List V:=[.k (.bool (decide (x<0))),.sl (zs (digs x.natAbs))]
abbrev RD.ag (l:List V):RD:= .v (.ag l)
abbrev RD.tu (l:List V):RD:= .v (.tu l)
abbrev RD.sl (l:List (List V)):RD:= .v (.sl l)
noncomputable abbrev PP:Program:= Tryz.prog
theorem mo_:PP.follows .mixedOrders=true:=by kernel_rfl
def okB (P:Program) (f:FuncId):Bool:=match P.funcs[f]? with
 |some fn=> !(fn.name== "runtime.NumGoroutine")&&fn.body.isSome
 |none=>false
theorem okF_of {P:Program} {f:FuncId} (h:okB P f=true):okF P f:=fun vs w=>by
 unfold okB at h
 split at h
 · rename_i fn hf
   simp only[Bool.and_eq_true,Bool.not_eq_true']at h
   have h2:fn.body.isNone=false:=by
    cases hb:fn.body with
    |none=>rw[hb]at h;cases h.2
    |some c=>rfl
   have h3:fn.name≠ "runtime.NumGoroutine" :=by simpa using h.1
   have h4:fn.body≠none:=by intro e;rw[e]at h2;cases h2
   simp[callFunc,hf,h3,h4]
 · cases h
/-- A function's facts by its number. -/
def fnOf (P:Program) (f:FuncId):Func:=(P.funcs[f]?).getD default
theorem fn_of {P:Program} {f:FuncId} (h:okB P f=true):P.funcs[f]? =some (fnOf P f)∧(fnOf P f).body.isSome=true:=by
 unfold okB at h
 unfold fnOf
 split at h
 · rename_i fn hf
   rw[hf]
   simp only[Bool.and_eq_true]at h
   exact⟨rfl,h.2⟩
 · cases h
def met2 (b:Bool) (x:Bool×List (List V)×RD):Bool×List (List V)×RD:=(b&&x.1,x.2)
/-- **A function that runs straight to its end**. -/
theorem tr {f:FuncId} {ds:List V} {d:RD} (sc:List (Fa PP)) (e:met2 (okB PP f&&Nat.beq d.n 0) (met (runE PP (fnOf PP f) d (body (fnOf PP f)) (st0 (fnOf PP f) ds) sc))=told (runE PP (fnOf PP f) d (body (fnOf PP f)) (st0 (fnOf PP f) ds) sc) d):Pure PP f ds d:=by
 have hb:(okB PP f&&Nat.beq d.n 0)=true∧met (runE PP (fnOf PP f) d (body (fnOf PP f)) (st0 (fnOf PP f) ds) sc)=told (runE PP (fnOf PP f) d (body (fnOf PP f)) (st0 (fnOf PP f) ds) sc) d:=by
  have h1:(told (runE PP (fnOf PP f) d (body (fnOf PP f)) (st0 (fnOf PP f) ds) sc) d).1=true:=by cases runE PP (fnOf PP f) d (body (fnOf PP f)) (st0 (fnOf PP f) ds) sc<;>rfl
  have h2:=congrArg (·.1) e
  have h3:=congrArg (·.2) e
  rw[h1]at h2
  simp only[met2,Bool.and_eq_true]at h2 h3
  exact⟨by rw[Bool.and_eq_true];exact h2.1,Prod.ext (h2.2.trans h1.symm) h3⟩
 obtain⟨k0,k1⟩:=hb
 rw[Bool.and_eq_true]at k0
 obtain⟨h1,h2⟩:=fn_of k0.1
 exact .of_gd h1 h2 (okF_of k0.1) (Nat.eq_of_beq_eq_true k0.2) (.end_ mo_ h1 sc k1)
/-- With loops. -/
theorem pf {f:FuncId} {ds:List V} {d:RD} (h:(okB PP f&&Nat.beq d.n 0)=true) (g:Gd PP f d (body (fnOf PP f)) (st0 (fnOf PP f) ds)):Pure PP f ds d:=by
 rw[Bool.and_eq_true]at h
 exact .of_gd (fn_of h.1).1 (fn_of h.1).2 (okF_of h.1) (Nat.eq_of_beq_eq_true h.2) g
/-- With objects that come in and stay the caller's. -/
theorem pfT {f:FuncId} {hs:List HO} {ds:List V} {d:RD} (h:okB PP f=true) (g:Gd PP f d (body (fnOf PP f)) (st0T (fnOf PP f) hs ds)) (hdr:(∀ m0,d.rest m0=[]):=by intro;rfl):PureT PP f hs ds d:= .of_gd (fn_of h).1 (fn_of h).2 (okF_of h) g hdr
theorem trT {f:FuncId} {hs:List HO} {ds:List V} {d:RD} (sc:List (Fa PP)) (e:met2 (okB PP f) (met (runE PP (fnOf PP f) d (body (fnOf PP f)) (st0T (fnOf PP f) hs ds) sc))=told (runE PP (fnOf PP f) d (body (fnOf PP f)) (st0T (fnOf PP f) hs ds) sc) d) (hdr:(∀ m0,d.rest m0=[]):=by intro;rfl):PureT PP f hs ds d:=by
 have hb:okB PP f=true∧met (runE PP (fnOf PP f) d (body (fnOf PP f)) (st0T (fnOf PP f) hs ds) sc)=told (runE PP (fnOf PP f) d (body (fnOf PP f)) (st0T (fnOf PP f) hs ds) sc) d:=by
  have h1:(told (runE PP (fnOf PP f) d (body (fnOf PP f)) (st0T (fnOf PP f) hs ds) sc) d).1=true:=by cases runE PP (fnOf PP f) d (body (fnOf PP f)) (st0T (fnOf PP f) hs ds) sc<;>rfl
  have h2:=congrArg (·.1) e
  have h3:=congrArg (·.2) e
  rw[h1]at h2
  simp only[met2,Bool.and_eq_true]at h2 h3
  exact⟨h2.1,Prod.ext (h2.2.trans h1.symm) h3⟩
 exact pfT hb.1 (.end_ mo_ (fn_of hb.1).1 sc hb.2) hdr
theorem fi {f:FuncId} {d:RD} {td:List Item} {σ:St} (sc:List (Fa PP)) (h:okB PP f=true) (e:met (runE PP (fnOf PP f) d td σ sc)=told (runE PP (fnOf PP f) d td σ sc) d):Gd PP f d td σ:= .end_ mo_ (fn_of h).1 sc e
theorem fiG {f:FuncId} {d:RD} {td:List Item} {σ:St} (gs:List Gh) (sc:List (Fa PP)) (h:okB PP f=true) (e:metG (fnOf PP f) d gs (run PP 5000 td σ sc)=toldG d (run PP 5000 td σ sc)):Gd PP f d td σ:= .endG mo_ (fn_of h).1 gs sc e
theorem inc_ {i:Nat} (h:i<9223372036854775807):IntKind.i64.wrap ((i:Int)+1)=((i+1:Nat):Int):=by rw[IntKind.wrap_i64];omega
/-- A counter goes on. -/
def inc {P:Program} (t i:Nat) (h:i<9223372036854775807):Fa P:= .eqv t (.k (.int .i64 (IntKind.i64.wrap ((i:Int)+1)))) (.k (.int .i64 ((i+1:Nat):Int))) (by rw[inc_ h])
def cl {P:Program} {f:FuncId} {ds:List V} {d:RD} (h:Pure P f ds d):Fa P:= .call f ds d h
section
variable {P:Program}
def ye {t:Bool} (h:t=true):Fa P:= .dec t true h
def na {t:Bool} (h:t=false):Fa P:= .dec t false h
end
theorem digs_z {x:Int} (h:x=0):digs x.natAbs=[]:=by subst h;unfold digs;rfl
theorem digs_nz {x:Int} (h:x≠0):(digs x.natAbs).length≠0:=by
 unfold digs
 rw[dif_neg (by omega)]
 simp
theorem len_z {x:Int} (h:x=0):(((digs x.natAbs).length:Int)==0)=true:=by rw[digs_z h];rfl
theorem len_nz {x:Int} (h:x≠0):(((digs x.natAbs).length:Int)==0)=false:=by
 have:=digs_nz h
 simp;exact fun e=>this (by rw[e];rfl)
theorem digs_one {x:Int} (h0:¬x<0) (h:(digs x.natAbs).length=1):digs x.natAbs=[x]:=by
 have h2:=(digs_ok x.natAbs).2
 match hd:digs x.natAbs,h with
 |[d],_=>
   rw[hd]at h2
   simp only[I.val]at h2
   congr 1
   omega
theorem digs_1:digs (1:Int).natAbs=[1]:=by
 unfold digs;rw[dif_neg (by decide)]
 unfold digs;rfl
abbrev F_:=Fa PP
noncomputable def yt:F_:=ye (t:=true) rfl
noncomputable def nf:F_:=na (t:=false) rfl
theorem zs_len (l:List Int):(zs l).length=l.length:=List.length_map ..
theorem num_el {l:List Int} {i:Nat} (h:i<l.length):l[i]? =some (l.getD i 0):=by rw[List.getD_eq_getElem?_getD,List.getElem?_eq_getElem h];rfl
theorem zs_el {l:List Int} {i:Nat} (h:i<l.length):(zs l)[i]? =some [ni (l.getD i 0)]:=by unfold zs;rw[List.getElem?_map,num_el h];rfl
theorem zs_at {l:List Int} {i:Nat} {d:Int} (h:l[i]? =some d):(zs l)[i]? =some [ni d]:=by unfold zs;rw[List.getElem?_map,h];rfl
theorem zs_app (l l2:List Int):zs (l++l2)=zs l++zs l2:=List.map_append
theorem zs_one (l:List Int) (d:Int):zs l++[[ni d]]=zs (l++[d]):=by rw[zs_app];rfl
theorem zs_set (l:List Int) (i:Nat) (d:Int):(zs l).set i [ni d]=zs (l.set i d):=by unfold zs;rw[List.map_set]
theorem zs_take (l:List Int) (i:Nat):(zs l).take i=zs (l.take i):=by unfold zs;rw[List.map_take]
theorem zs_rep (n:Nat):List.replicate n [ni 0]=zs (List.replicate n 0):=by unfold zs;rw[List.map_replicate]
theorem zs_z (l:List Int):∀ cs∈zs l,cs.length=1:=fun cs h=>by obtain⟨x,_,rfl⟩:=List.mem_map.1 h;rfl
theorem zs_z1 (l:List Int):∀ cs∈zs l,cs.length=1∧cs.all one=true:=fun cs h=>by obtain⟨x,_,rfl⟩:=List.mem_map.1 h;exact⟨rfl,rfl⟩
section
variable {w w':World} {A:Nat→Prop} {m:Nat→Option Value} {u:Value}
theorem reps_of:∀ {us:List Value} {ds:List V},us.length=ds.length→Glo w A→(∀ j,j<ds.length→Rep w A m (us.getD j undef) (ds.getD j .un))→Reps w A m us.toArray ds:=fun{us ds} h hg h2=>by
 refine⟨h,fun j x hx=> ?_,hg⟩
 have hlt:=(List.getElem?_eq_some_iff.1 hx).1
 have:=h2 j hlt
 rw[List.getD_eq_getElem?_getD (l:=ds),hx]at this
 rw[←getD_toList]
 exact this
end
end Go.Proofs.YtfdfbenejkmnlaaGreatDoor.E
namespace Go.Proofs.YtfdfbenejkmnlaaGreatDoor.E
open Go.RowKit
set_option linter.unusedVariables false
set_option linter.unusedSimpArgs false
section
variable {P:Program}
theorem two_of {α:Type} {xs:List α} (h:xs.length=2):∃ x y,xs=[x,y]:=by
 match xs,h with
 |[x,y],_=>exact⟨x,y,rfl⟩
def mkEq (op:BinOp) (T yT:TypeId) (xs:List Operand):Op:= .binOp op T (xs.getD 0 (.tmp 0)) (xs.getD 1 (.tmp 0)) yT
def mkAp (T T2:TypeId) (xs:List Operand):Op:= .call ⟨.builtin .append, #[xs.getD 0 (.tmp 0),xs.getD 1 (.tmp 0)], #[T,T2]⟩
/-- A row with elements is not nil. -/
theorem x_eqnil {T e yT:TypeId} (hT:P.underlying T=some (.slice e)) (hg:P.eqGuardType P.depth T=false) (c:List V) (l:List (List V)):Ext P (mkEq .eql T yT) [.sl (c::l),.k (.slice none 0 0)] [] [] (bo false):=by
 intro B M h m w a o xs ho K hl hr _ _
 obtain⟨x,y,rfl⟩:=two_of hl
 have hx:=hr 0 x _ rfl rfl
 have hy:=Rep.k_inv (hr 1 y _ rfl rfl)
 generalize hu:a.eval x=u at hx
 cases hx with
 |sl _ ad b off cc z _ us h1 h2 h3=>
  obtain⟨rfl,_⟩:=h3 (by simp)
  have hq:=Lib.run_eql_slice_nil (P:=P) w T e (some ⟨b,off,none⟩) (c::l).length cc 0 0 hT
  have hgd:(eqGuard .eql T x y (.slice (some ⟨b,off,none⟩) (c::l).length cc) (.slice none 0 0)).run P w= .ok () w:=by simp[eqGuard,hg]
  refine Exec.val (u:= .bool false) (w':=w) ?_ (.same K (.k _ _))
  simp only[mkEq,List.getD_cons_zero,List.getD_cons_succ]at ho
  simp only[Option.isNone]at hq
  simp only[List.length_cons]at hq hgd hu
  simp[execOp,ho,hu,hy,hgd,hq]
/-- Nothing is appended. -/
theorem x_apk {T e:TypeId} (hT:P.underlying T=some (.slice e)) {n0:Nat} (hs:szT P e=some n0) {b U z:Nat} {l:List (List V)} {X:Option Addr} {c2:Nat}:Ext P (mkAp T T) [.ow b,.k (.slice X 0 c2)] [(b,.rw U z l)] [] (.ow b):=by
 intro B M h m w a o xs ho K hl hr hrd _
 obtain⟨x,y,rfl⟩:=two_of hl
 have hx:=hr 0 x _ rfl rfl
 have hy:=Rep.k_inv (hr 1 y _ rfl rfl)
 have hb:h b= .rw U z l:=hrd _ (List.mem_singleton.2 rfl)
 obtain⟨v1,xs1,h1,h2,h3,h4,h5⟩:=K.rw b U z l hb
 generalize hu:a.eval x=u at hx
 cases hx with
 |ow _ _ ad n c hm=>
  rw[h1]at hm
  injection hm with hm
  subst hm
  have hle:n≤c:=by
   rcases h3.2 with⟨e1,e2⟩|⟨g,cap,cur,e1,_,_,e2,_⟩
   · injection e1 with e1 e3 e4;omega
   · injection e1 with e1 e3 e4;omega
  simp only[mkAp,List.getD_cons_zero,List.getD_cons_succ]at ho
  refine Exec.val (u:= .slice ad n c) (w':=w) ?_ (.same K (.ow _ _ _ _ _ h1))
  simp[execOp,ho,resolve,invoke,builtin,hu,hy,append_none hT hs hle]
/-- A row without elements: whatever it is, nil or not. -/
theorem Pure.em {f:FuncId} {pre post:List V} {D:RD} (h:∀ ad c,Pure P f (pre++ .k (.slice ad 0 c)::post) D):Pure P f (pre++ .sl []::post) D:=by
 refine⟨(h none 0).1,fun w M args hM ha=> ?_⟩
 have h0:=ha.2 pre.length (.sl []) (by simp)
 generalize hu:args.getD pre.length undef=u at h0
 cases h0 with
 | sl _ ad b o c z _ us h1 h2 h3 =>
  refine(h ad c).2 w M args hM ⟨by rw[ha.1];simp,fun j x hx=> ?_,ha.3⟩
  by_cases hj:j=pre.length
  · subst hj
    simp at hx
    subst hx
    rw[hu]
    exact .k _ _
  · refine ha.2 j x ?_
    rcases Nat.lt_or_ge j pre.length with h4|h4
    · rw[List.getElem?_append_left h4]at hx⊢
      exact hx
    · rw[List.getElem?_append_right h4]at hx⊢
      obtain⟨k,hk⟩:∃ k,j - pre.length=k+1:=⟨j - pre.length - 1,by omega⟩
      rw[hk]at hx⊢
      simpa using hx
end
end Go.Proofs.YtfdfbenejkmnlaaGreatDoor.E

namespace Go.Proofs.YtfdfbenejkmnlaaGreatDoor.E
open Go.RowKit
set_option linter.unusedVariables false
section
end
section
variable {P:Program} {B:Nat→Prop} {M:Nat→Prop} {w0:World} {Fx:Fence} {nf:Nat}
/-- Its memory alone. -/
def hd (x:Bool×Exit×List (List V)×St):Bool×Exit×List (List V)×List HO:=(x.1,x.2.1,x.2.2.1,x.2.2.2.h)
/-- The first loop over a function: what it runs over, its parameters, what lays them, its body, what comes behind it. -/
def rfs:Code→List Item→Option (Operand×Array Tmp×Code×Code×List Item)
 | .seq a b,k=>match rfs a (.code b::k)with
   |some x=>some x
   |none=>rfs b k
 | .cond _ a b,k=>match rfs a k with
   |some x=>some x
   |none=>rfs b k
 | .block id c,k=>rfs c (.inBlock id::k)
 | .scope c,k=>rfs c (.inScope c::k)
 | .loop c,k=>rfs c (.inLoop c::k)
 | .rangeFunc g p x y,k=>some (g,p,x,y,k)
 |_,_=>none
def rf (fn:Func):Operand×Array Tmp×Code×Code×List Item:=match fn.body with
 |some c=>(rfs c []).getD default
 |none=>default
end
end Go.Proofs.YtfdfbenejkmnlaaGreatDoor.E
namespace Go.Proofs.YtfdfbenejkmnlaaGreatDoor.E
set_option maxHeartbeats 1000000
open Go.RowKit
set_option linter.unusedVariables false
section
variable {P:Program} {Fx:Fence} {nf:Nat} {B M:Nat→Prop} {w0 w w':World} {A A':Nat→Prop} {m m':Nat→Option Value}
/-- What stands by fixed names alone goes over to a later world. -/
theorem refs_mo {p:Nat→Bool} {u:Value} {x:V} (hx:refs p x=true) (hm:∀ b,p b=true→∀ v,m b=some v→m' b=some v) (g:Mo w A no w' A' no) (h:Rep w A m u x):Rep w' A' m' u x:=by
 let m0:Nat→Option Value:=fun b=>if p b then m b else none
 have h1:Rep w A m0 u x:=refs_ok (p:=p) (fun b hb=>if_pos hb) Mo.refl h hx
 refine h1.mo ⟨g.size,g.blk,g.av,fun b v e=> ?_⟩
 by_cases hb:p b=true
 · exact hm b hb v ((if_pos hb).symm.trans e)
 · have:m0 b=none:=if_neg hb
   rw[this]at e
   cases e
end
end Go.Proofs.YtfdfbenejkmnlaaGreatDoor.E
namespace Go.Proofs.YtfdfbenejkmnlaaGreatDoor.E
open Go.RowKit
set_option linter.unusedVariables false
set_option linter.unusedSimpArgs false
def kN (p:Int×Int):Value:= .agg #[.int .i64 p.1,.int .i64 p.2]
def kV (p:Int×Int):V:= .ag [.k (.int .i64 p.1),.k (.int .i64 p.2)]
section
variable {P:Program} {w:World} {p q:Int×Int}
theorem kV_inv {A:Nat→Prop} {m:Nat→Option Value} {u:Value} (h:Rep w A m u (kV p)):u=kN p:=by
 unfold kV at h
 cases h with
 |ag _ cs _ h1 h2=>
  have e0:=Rep.k_inv (h2 0 _ rfl)
  have e1:=Rep.k_inv (h2 1 _ rfl)
  unfold kN
  congr 1
  apply Array.ext
  · simpa using h1
  · intro i hi hi'
    have hi2:i<2:=by simpa using hi'
    match i,hi2 with
    |0,_=>rw[Array.getD_eq_getD_getElem?,Array.getElem?_eq_getElem hi]at e0;exact e0
    |1,_=>rw[Array.getD_eq_getD_getElem?,Array.getElem?_eq_getElem hi]at e1;exact e1
/-- What keys of a map's type are: compared as pairs. -/
structure KeyT (P:Program) (T kT eT:TypeId):Prop where
 t:P.underlying T=some (.map kT eT)
 eq:∀ (p q:Int×Int) (w:World),(Op.equal kT (kN p) (kN q)).run P w= .ok (decide (p=q)) w
 ck:∀ (b:Bool) (p:Int×Int) (w:World),(Instr.checkKey b 10000 kT (kN p)).run P w= .ok () w
 st:∃ fs,P.underlying kT=some (.struct fs)
section
variable {T kT eT:TypeId} (K:KeyT P T kT eT)
include K
theorem run_ask0:∀ (es:List MapEntry) (ps:List (Int×Int)) (i:Nat),es.map (·.key)=ps.map kN→p∉ps→(Instr.findAsking kT (kN p) es i).run P w= .ok none w
 |[],ps,i,h,hp=>by simp[Instr.findAsking]
 |e::es,[],i,h,hp=>by simp at h
 |e::es,q::ps,i,h,hp=>by
  simp only[List.map_cons,List.cons.injEq]at h
  have hq:decide (p=q)=false:=decide_eq_false fun e=>hp (by rw[e];exact List.mem_cons_self ..)
  have he:=K.eq p q w
  rw[hq]at he
  simp only[Instr.findAsking,Sem.run_bind,h.1,he,Result.andThen_ok,Bool.false_eq_true,if_false]
  exact run_ask0 es ps (i+1) h.2 fun h=>hp (List.mem_cons_of_mem _ h)
theorem run_ask1:∀ (es:List MapEntry) (ps:List (Int×Int)) (i j:Nat) (e:MapEntry),es.map (·.key)=ps.map kN→es[j]? =some e→ps[j]? =some p→(∀ t,t<j→ps[t]? ≠some p)→(Instr.findAsking kT (kN p) es i).run P w= .ok (some (i+j,e.val)) w
 |[],ps,i,j,e,h,he,hp,hf=>by simp at he
 |x::es,[],i,j,e,h,he,hp,hf=>by simp at h
 |x::es,q::ps,i,0,e,h,he,hp,hf=>by
  simp only[List.map_cons,List.cons.injEq]at h
  simp only[List.getElem?_cons_zero,Option.some.injEq]at he hp
  subst he;subst hp
  have hk:=K.eq q q w
  rw[decide_eq_true rfl]at hk
  simp only[Instr.findAsking,Sem.run_bind,h.1,hk,Result.andThen_ok,if_true]
  simp
 |x::es,q::ps,i,j+1,e,h,he,hp,hf=>by
  simp only[List.map_cons,List.cons.injEq]at h
  have h0:=hf 0 (by omega)
  have hq:decide (p=q)=false:=decide_eq_false fun e=>h0 (by rw[e];rfl)
  have hk:=K.eq p q w
  rw[hq]at hk
  simp only[Instr.findAsking,Sem.run_bind,h.1,hk,Result.andThen_ok,Bool.false_eq_true,if_false]
  rw[run_ask1 es ps (i+1) j e h.2 (by simpa using he) (by simpa using hp) fun t ht=>by have:=hf (t+1) (by omega);simpa using this]
  rw[show i+1+j=i+(j+1)by omega]
theorem run_fk (es:List MapEntry) (ps:List (Int×Int)) (h:es.map (·.key)=ps.map kN) {r:Option (Nat×Value)} (ha:(Instr.findAsking kT (kN p) es 0).run P w= .ok r w):(Instr.findKey kT (kN p) es).run P w= .ok r w:=by
 obtain⟨fs,hs⟩:=K.st
 cases es with
 |nil=>
  simp[Instr.findAsking]at ha
  subst ha
  simp[Instr.findKey,run_under hs,Instr.findNow]
 |cons e es=>
  have hn:Instr.findNow (.struct fs) (kN p) (e::es) 0=none:=rfl
  simp only[Instr.findKey,Sem.run_bind,run_under hs,Result.andThen_ok,hn]
  exact ha
end
/-- The names of a map's entries. -/
def nmsOf (l:List (V×V)) (ps:List (Int×Int)):Prop:=l.map (·.1)=ps.map kV
theorem keys_of {A:Nat→Prop} {es:Array MapEntry} {l:List (V×V)} {ps:List (Int×Int)} (hn:nmsOf l ps) (hs:es.size=l.length) (h:∀ (j:Nat) (x:V×V) (e:MapEntry),l[j]? =some x→es[j]? =some e→Rep w A no e.key x.1∧Rep w A no e.val x.2):es.toList.map (·.key)=ps.map kN:=by
 have hl:l.length=ps.length:=by have:=congrArg List.length hn;simpa using this
 apply List.ext_getElem?
 intro j
 rw[List.getElem?_map,List.getElem?_map,Array.getElem?_toList]
 by_cases hj:j<l.length
 · have hx:=List.getElem?_eq_getElem hj
   have he:=Array.getElem?_eq_getElem (xs:=es) (i:=j) (by omega)
   have hp:=List.getElem?_eq_getElem (l:=ps) (i:=j) (by omega)
   have h1:=(h j _ _ hx he).1
   have h2:(l.map (·.1))[j]? =(ps.map kV)[j]? :=by rw[hn]
   rw[List.getElem?_map,List.getElem?_map,hx,hp]at h2
   simp only[Option.map_some,Option.some.injEq]at h2
   rw[h2]at h1
   rw[he,hp,Option.map_some,Option.map_some,kV_inv h1]
 · rw[Array.getElem?_eq_none (by omega),List.getElem?_eq_none (by omega)]
   rfl
def mkLk (T:TypeId) (ok:Bool) (xs:List Operand):Op:= .lookup T (xs.getD 0 (.tmp 0)) (xs.getD 1 (.tmp 0)) ok
def lkV (ok:Bool) (x:V) (b:Bool):V:=if ok then .tu [x,.k (.bool b)]else x
theorem lkV_rep {A:Nat→Prop} {m:Nat→Option Value} {u:Value} {x:V} (ok b:Bool) (h:Rep w A m u x):Rep w A m (if ok then .tuple #[u,.bool b]else u) (lkV ok x b):=by
 unfold lkV
 cases ok with
 |false=>exact h
 |true=>
  refine .tu _ #[u,.bool b] _ rfl fun j y hj=> ?_
  match j with
  |0=>injection hj with hj;subst hj;exact h
  |1=>injection hj with hj;subst hj;exact .k _ _
  |j+2=>simp at hj
theorem run_lk {T kT eT:TypeId} (K:KeyT P T kT eT) {ok:Bool} {g:Nat} {es:Array MapEntry} {clk:Nat} (hg:w.heap[g]? =some (.map es clk)) {r:Option (Nat×Value)} (hf:(Instr.findKey kT (kN p) es.toList).run P w= .ok r w) {z:Value} (hz:r=none→(zeroValue eT).run P w= .ok z w):
  (Instr.lookup T (.map (some g)) (kN p) ok).run P w= .ok (match r with
   |some (_,v)=>if ok then .tuple #[v,.bool true]else v
   |none=>if ok then .tuple #[z,.bool false]else z) w:=by
 have hgo:=MapKept.run_getObj_map (P:=P) hg
 have hck:=K.ck es.isEmpty p w
 unfold Instr.lookup
 simp only[Sem.run_bind,run_under K.t,Result.andThen_ok,hgo,Sem.run_pure,hck,hf]
 cases r with
 |none=>
  have:=hz rfl
  simp only[Sem.run_bind,this,Result.andThen_ok,Sem.run_pure]
 |some x=>
  simp only[Sem.run_bind,Result.andThen_ok,Sem.run_pure]
/-- A key that is there. -/
theorem x_lk1 {T kT eT:TypeId} (K:KeyT P T kT eT) {ok:Bool} {b:Nat} {l:List (V×V)} {ps:List (Int×Int)} {j:Nat} {x:V} (hn:nmsOf l ps) (hp:ps[j]? =some p) (hf:∀ t,t<j→ps[t]? ≠some p) (hl:l[j]? =some (kV p,x)):Ext P (mkLk T ok) [.nm b,kV p] [(b,.mp l)] [] (lkV ok x true):=by
 intro B M h m w a o xs ho K0 hxl hr hrd _
 obtain⟨x0,x1,rfl⟩:=two_of hxl
 have h0:=hr 0 x0 _ rfl rfl
 have h1:=kV_inv (hr 1 x1 _ rfl rfl)
 have hb:h b= .mp l:=hrd (b,.mp l) (List.mem_singleton.2 rfl)
 obtain⟨g,q1,q2,q3,es,clk,q4,q5,q6⟩:=K0.mp b l hb
 simp only[mkLk,List.getD_cons_zero,List.getD_cons_succ]at ho
 have hu:a.eval x0= .map (some g):=by
  generalize a.eval x0=u at h0
  cases h0 with
  |nm _ _ v hm=>rw[q1]at hm;injection hm with hm;exact hm.symm
 have hks:=keys_of hn q5 q6
 have hje:j<es.size:=by rw[q5];exact(List.getElem?_eq_some_iff.1 hl).1
 have he:=Array.getElem?_eq_getElem hje
 have hrun:=run_fk K es.toList ps hks (run_ask1 (w:=w) K es.toList ps 0 j es[j] hks (by rw[Array.getElem?_toList];exact he) hp hf)
 have hlk:=run_lk K (ok:=ok) (z:=undef) q4 hrun (fun e=>by cases e)
 refine Exec.val (u:=if ok then .tuple #[es[j].val,.bool true]else es[j].val) (w':=w) ?_ (.same K0 (lkV_rep ok true ?_))
 · simp only[execOp,ho,hu,h1,Sem.run_bind,hlk,Result.andThen_ok,Sem.run_pure]
 · exact((q6 j _ _ hl he).2).mo ⟨Nat.le_refl _,fun _ _ _=>rfl,fun g e=> .inl e,fun _ _ e=>by cases e⟩
/-- A key that is not there. -/
theorem x_lk0 {T kT eT:TypeId} (K:KeyT P T kT eT) {ok:Bool} {b:Nat} {l:List (V×V)} {ps:List (Int×Int)} {zv:Value} {zl:List V} (hz:zeroV P eT=some (zv,zl)) (hza:∃ cs,zv= .agg cs) (hn:nmsOf l ps) (hp:p∉ps):Ext P (mkLk T ok) [.nm b,kV p] [(b,.mp l)] [] (lkV ok (.ag zl) false):=by
 intro B M h m w a o xs ho K0 hxl hr hrd _
 obtain⟨x0,x1,rfl⟩:=two_of hxl
 have h0:=hr 0 x0 _ rfl rfl
 have h1:=kV_inv (hr 1 x1 _ rfl rfl)
 have hb:h b= .mp l:=hrd (b,.mp l) (List.mem_singleton.2 rfl)
 obtain⟨g,q1,q2,q3,es,clk,q4,q5,q6⟩:=K0.mp b l hb
 simp only[mkLk,List.getD_cons_zero,List.getD_cons_succ]at ho
 have hu:a.eval x0= .map (some g):=by
  generalize a.eval x0=u at h0
  cases h0 with
  |nm _ _ v hm=>rw[q1]at hm;injection hm with hm;exact hm.symm
 have hks:=keys_of hn q5 q6
 obtain⟨z1,z2,z3⟩:=zero_ok (w:=w) (A:=Av M h m) (m:=m) hz
 have hrun:=run_fk K es.toList ps hks (run_ask0 (w:=w) K es.toList ps 0 hks hp)
 have hlk:=run_lk K (ok:=ok) (z:=zv) q4 hrun (fun _=>z1 w)
 refine Exec.val (u:=if ok then .tuple #[zv,.bool false]else zv) (w':=w) ?_ (.same K0 (lkV_rep ok false ?_))
 · simp only[execOp,ho,hu,h1,Sem.run_bind,hlk,Result.andThen_ok,Sem.run_pure]
 · obtain⟨cs,rfl⟩:=hza
   exact .ag _ cs zl z2 z3
def mkMm (T:TypeId) (xs:List Operand):Op:= .makeMap T none
theorem x_mm {T:TypeId} {j:Nat}:Ext P (mkMm T) [] [] [(j,.mp [])] (.nm j):=by
 intro B M h m w a o xs ho K hxl hr hrd hws
 obtain⟨hj1,hj2⟩:=hws j (by simp) (by simp)
 simp only[mkMm]at ho
 have halt:w.heap.size<(w.alloc (.map #[] 0)).heap.size:=(Array.getElem?_eq_some_iff.1 (MapKept.heap_alloc w (.map #[] 0)).1).1
 have hb:Go.RowKit.Below w.heap.size w (w.alloc (.map #[] 0)):=⟨rfl,rfl,rfl,Nat.le_of_lt halt,fun k hk=>(MapKept.heap_alloc w _).2 k hk⟩
 have hu:∀ g,E.blk (.map (some w.heap.size))=some g→w.heap.size≤g:=fun g e=>by
  injection e with e
  omega
 have K2:=K.new (x:= .mp []) (u:= .map (some w.heap.size)) (w':=w.alloc (.map #[] 0)) hj1 hj2 hu hb (fun _ _ e=>by cases e) (fun _ _ _ e=>by cases e) (fun _ e=>by cases e) (fun l e=>by
  injection e with e
  subst e
  exact⟨w.heap.size,rfl,halt, #[],0,(MapKept.heap_alloc w _).1,rfl,fun j x e hx=>by simp at hx⟩)
 refine Exec.val (u:= .map (some w.heap.size)) (w':=w.alloc (.map #[] 0)) ?_ ⟨_,K2,.nm _ _ _ upd_eq,.new hj1 hj2 hu hb,.of hb K.bs,fun c hc=> ?_⟩
 · simp[execOp,ho,Instr.makeMap,newObj,Sem.run]
 · by_cases hcj:c=j
   · exact .inr (by simp[hcj])
   · rw[upd_ne hcj]at hc
     exact .inl hc
def mkMu (T:TypeId) (xs:List Operand):Op:= .mapUpdate T (xs.getD 0 (.tmp 0)) (xs.getD 1 (.tmp 0)) (xs.getD 2 (.tmp 0))
/-- A new key. -/
theorem x_mu {T kT eT:TypeId} (K:KeyT P T kT eT) {b:Nat} {l l':List (V×V)} {ps:List (Int×Int)} {x:V} (hn:nmsOf l ps) (hp:p∉ps) (hx:refs (fun _=>false) x=true) (hl':l++[(kV p,x)]=l'):Ext P (mkMu T) [.nm b,kV p,x] [(b,.mp l)] [(b,.mp l')] .un:=by
 intro B M h m w a o xs ho K0 hxl hr hrd _
 obtain⟨x0,x1,x2,rfl⟩:∃ x y z,xs=[x,y,z]:=by
  match xs,hxl with
  |[x,y,z],_=>exact⟨x,y,z,rfl⟩
 have h0:=hr 0 x0 _ rfl rfl
 have hk:=hr 1 x1 _ rfl rfl
 have h1:=kV_inv hk
 have h2:=hr 2 x2 _ rfl rfl
 have hb:h b= .mp l:=hrd (b,.mp l) (List.mem_singleton.2 rfl)
 obtain⟨g,q1,q2,q3,es,clk,q4,q5,q6⟩:=K0.mp b l hb
 simp only[mkMu,List.getD_cons_zero,List.getD_cons_succ]at ho
 have hu:a.eval x0= .map (some g):=by
  generalize a.eval x0=u at h0
  cases h0 with
  |nm _ _ v hm=>rw[q1]at hm;injection hm with hm;exact hm.symm
 have hks:=keys_of hn q5 q6
 have hrun:=run_fk K es.toList ps hks (run_ask0 (w:=w) K es.toList ps 0 hks hp)
 obtain⟨w',hw'⟩:∃ w':World,w'={w with heap:=w.heap.setIfInBounds g (.map (es.push {key:=kN p,val:=a.eval x2,born:=clk}) (clk+1))}:=⟨_,rfl⟩
 have hoth:Oth g w w':=by
  rw[hw']
  exact⟨rfl,rfl,rfl,by simp,fun k hk=>(MapKept.heap_set (o':= .map (es.push {key:=kN p,val:=a.eval x2,born:=clk}) (clk+1)) q4).2 k hk⟩
 have hmu:(Instr.mapUpdate T (.map (some g)) (kN p) (a.eval x2)).run P w= .ok () w':=by
  have hgo:=MapKept.run_getObj_map (P:=P) q4
  have hck:=K.ck false p w
  have hso:=MapKept.run_setObj_map (P:=P) (.map (es.push {key:=kN p,val:=a.eval x2,born:=clk}) (clk+1)) q4
  unfold Instr.mapUpdate
  simp only[Sem.run_bind,run_under K.t,Result.andThen_ok,hgo,hck,hrun,hso]
  rw[hw']
 obtain⟨t1,t2⟩:=K0.turn (w':=w') (x:= .mp l') (g:=g) (by rw[hb];rfl) q1 rfl hoth (fun _ _ e=>by cases e) (fun _ _ _ e=>by cases e) rfl (fun l2 e=>by
  injection e with e
  subst e
  refine⟨rfl,_,_,by rw[hw'];exact(MapKept.heap_set q4).1,by rw[←hl'];simp[q5],fun j y e hy he=> ?_⟩
  rw[←hl']at hy
  rcases Nat.lt_or_ge j l.length with hj|hj
  · rw[List.getElem?_append_left hj]at hy
    rw[Array.getElem?_push_lt (by omega)]at he
    exact q6 j y e hy (by rw[Array.getElem?_eq_getElem (by omega)];exact he)
  · have hj2:j=l.length:=by
     have:=(List.getElem?_eq_some_iff.1 hy).1
     simp at this
     omega
    subst hj2
    rw[List.getElem?_append_right (Nat.le_refl _),Nat.sub_self]at hy
    injection hy with hy
    subst hy
    rw[←q5,Array.getElem?_push_size]at he
    injection he with he
    subst he
    refine⟨?_,refs_mo (p:=fun _=>false) hx (fun b hb=>by cases hb) ⟨Nat.le_refl _,fun _ _ _=>rfl,fun g e=> .inl e,fun _ _ e=>e⟩ h2⟩
    rw[h1]at hk
    exact refs_mo (p:=fun _=>false) rfl (fun b hb=>by cases hb) ⟨Nat.le_refl _,fun _ _ _=>rfl,fun g e=> .inl e,fun _ _ e=>e⟩ hk)
 refine .inr (.inl ⟨w', ?_,m,t1,.un _ _,t2,hoth.below q2,fun c hc=> .inl hc⟩)
 simp only[execOp,ho,hu,h1,Sem.run_bind,hmu,Result.andThen_ok,Sem.run_pure]
theorem x_mlen {T kT eT:TypeId} (hT:P.underlying T=some (.map kT eT)) {b:Nat} {l:List (V×V)}:Ext P (fun xs=> .call {callee:= .builtin .len,args:= #[xs.getD 0 (.tmp 0)],argTypes:= #[T]}) [.nm b] [(b,.mp l)] [] (.k (.int .i64 (l.length:Int))):=by
 intro B M h m w a o xs ho K0 hxl hr hrd _
 obtain⟨x0,rfl⟩:∃ x,xs=[x]:=by
  match xs,hxl with
  |[x],_=>exact⟨x,rfl⟩
 have h0:=hr 0 x0 _ rfl rfl
 have hb:h b= .mp l:=hrd (b,.mp l) (List.mem_singleton.2 rfl)
 obtain⟨g,q1,q2,q3,es,clk,q4,q5,q6⟩:=K0.mp b l hb
 simp only[List.getD_cons_zero]at ho
 have hu:a.eval x0= .map (some g):=by
  generalize a.eval x0=u at h0
  cases h0 with
  |nm _ _ v hm=>rw[q1]at hm;injection hm with hm;exact hm.symm
 refine Exec.val (u:= .int .i64 (l.length:Int)) (w':=w) ?_ (.same K0 (.k _ _))
 have hgo:=MapKept.run_getObj_map (P:=P) q4
 have hlo:(Builtin.len_ #[T] o.type #[a.eval x0]).run P w= .ok (.int .i64 (l.length:Int)) w:=by
  rw[hu]
  simp[Builtin.len_,run_under hT,hgo,goInt,q5]
 simp[execOp,ho,resolve,invoke,builtin,hlo]
end
end Go.Proofs.YtfdfbenejkmnlaaGreatDoor.E
namespace Go.Proofs.YtfdfbenejkmnlaaGreatDoor.Dr
open Go
set_option linter.unusedVariables false
set_option linter.unusedSimpArgs false
def R {α:Type} (n:Nat):Result α→Prop
 | .ok _ w=>n≤w.drawn
 | .halt _ w=>n≤w.drawn
theorem R.le {α:Type} {n m:Nat} {r:Result α} (h:R m r) (hm:n≤m):R n r:=by
 cases r<;>exact Nat.le_trans hm h
theorem ask_dr {α:Type}:∀ (x:Ask α) (w:World),w.drawn≤(w.ask x).2.drawn
 | .done a,w=>by simp[World.ask]
 | .ask what range k,w=>by
  unfold World.ask
  dsimp only
  split
  · exact ask_dr _ _
  · exact Nat.le_trans (Nat.le_succ w.drawn) (ask_dr _ {w with drawn:=w.drawn+1})
theorem sys_dr (w:World) (c:Sys):w.drawn≤(w.sys c).2.drawn:=by
 have h:=ask_dr (Kernel.perform c w.os) w
 unfold World.sys
 split
 · exact Nat.le_refl _
 · rename_i e
   rw[e]at h
   exact h
theorem freeze_dr (w:World) (a:Addr) (n:Nat):(w.freeze a n).drawn=w.drawn:=by
 unfold World.freeze
 (repeat' split)<;>rfl
theorem view_dr {p:Program} {w w':World} {at_ k:Addr} {u:TypeId} {v:Value} {b:Bool} {l:List Addr} (h:w.viewStore p at_ u k v b= .ok (w',l)):w'.drawn=w.drawn:=by
 unfold World.viewStore at h
 simp only[bind,Except.bind,pure,Except.pure,throw,throwThe,MonadExceptOf.throw]at h
 repeat' (split at h)
 all_goals first
  |(cases h;done)
  |(injection h with h;injection h with h1 h2;subst h1;rfl)
  |skip
theorem far_dr {p:Program} {w w':World} {a:Addr} {v:Value} {b:Bool} {l:List Addr} (h:w.farStore p a v b= .ok (w',l)):w'.drawn=w.drawn:=by
 unfold World.farStore at h
 split at h
 · split at h
   · rename_i e
     injection h with h
     subst h
     exact view_dr e
   · cases h
 · cases h
theorem run_dr {α:Type} (p:Program):∀ (x:Sem α) (w:World),R w.drawn (x.run p w)
 | .pure a,w=>Nat.le_refl _
 | .load m a k,w=>by
  simp only[Sem.run]
  split
  · exact run_dr p _ w
  · split
    · exact run_dr p _ w
    · exact Nat.le_refl _
 | .store m a v k,w=>by
  have key : R w.drawn (match w.cell? a with
    |some _=>if w.frozen? a then .halt (.unsupported (.unsafePointer "a write to bytes that a string shares")) w else k.run p (w.setCell a v)
    |none=>match w.farStore p a v (m== .atomic)with
      | .ok (w,_)=>k.run p w
      | .error h=> .halt h w):=by
   split
   · split
     · exact Nat.le_refl _
     · exact run_dr p k (w.setCell a v)
   · split
     · rename_i w2 tch e
       have:=run_dr p k w2
       rw[far_dr e]at this
       exact this
     · exact Nat.le_refl _
  cases v<;>simp only[Sem.run]<;>first|exact key|exact Nat.le_refl _
 | .new o k,w=>run_dr p (k w.heap.size) {w with heap:=w.heap.push o}
 | .shape r k,w=>run_dr p (k (w.shape? r)) w
 | .freeze a n k,w=>by
  have:=run_dr p k (w.freeze a n)
  rw[freeze_dr]at this
  exact this
 | .frozen a k,w=>run_dr p (k (w.frozen? a)) w
 | .getObj r k,w=>by
  simp only[Sem.run]
  split
  · exact Nat.le_refl _
  · exact run_dr p _ w
  · exact Nat.le_refl _
 | .setObj r o k,w=>by
  simp only[Sem.run]
  split
  · exact Nat.le_refl _
  · exact run_dr p k {w with heap:=w.heap.setIfInBounds r o}
  · exact Nat.le_refl _
 | .choose q k,w=>by
  simp only[Sem.run]
  split
  · exact run_dr p _ w
  · exact(run_dr p (k (q.cut (w.tape w.drawn q))) {w with drawn:=w.drawn+1}).le (Nat.le_succ w.drawn)
 | .sys c k,w=>(run_dr p (k (w.sys c).1) (w.sys c).2).le (sys_dr w c)
 | .program k,w=>run_dr p (k p) w
 | .mark m k,w=>run_dr p k w
 | .halt h,w=>Nat.le_refl _
theorem runT_dr {α : Type} (p : Program) : ∀ (x : Sem α) (w : World) (es : Array Event), R w.drawn (x.runT p w es).1
 | .pure a,w,es=>Nat.le_refl _
 | .load m a k,w,es=>by
  simp only[Sem.runT]
  split
  · exact runT_dr p _ w _
  · split
    · exact runT_dr p _ w _
    · exact Nat.le_refl _
 | .store m a v k, w, es => by
  cases v
  all_goals simp only[Sem.runT]
  all_goals first
   |exact Nat.le_refl w.drawn
   | (split
      · split
        · exact Nat.le_refl w.drawn
        · exact runT_dr p k (w.setCell a _) _
      · split
        · rename_i w2 tch e
          have:=runT_dr p k w2 (es++tch.toArray.map (⟨.cell ·,true,m== .atomic⟩))
          rw[far_dr e]at this
          exact this
        · exact Nat.le_refl w.drawn)
 | .new o k,w,es=>runT_dr p (k w.heap.size) {w with heap:=w.heap.push o} es
 | .shape r k,w,es=>runT_dr p (k (w.shape? r)) w es
 | .freeze a n k,w,es=>by
  have:=runT_dr p k (w.freeze a n) es
  rw[freeze_dr]at this
  exact this
 | .frozen a k,w,es=>runT_dr p (k (w.frozen? a)) w es
 | .getObj r k,w,es=>by
  simp only[Sem.runT]
  split
  · exact Nat.le_refl _
  · exact runT_dr p _ w _
  · exact Nat.le_refl _
 | .setObj r o k,w,es=>by
  simp only[Sem.runT]
  split
  · exact Nat.le_refl _
  · exact runT_dr p k {w with heap:=w.heap.setIfInBounds r o} _
  · exact Nat.le_refl _
 | .choose q k,w,es=>by
  simp only[Sem.runT]
  split
  · exact runT_dr p _ w es
  · exact(runT_dr p (k (q.cut (w.tape w.drawn q))) {w with drawn:=w.drawn+1} es).le (Nat.le_succ w.drawn)
 | .sys c k,w,es=>(runT_dr p (k (w.sys c).1) (w.sys c).2 _).le (sys_dr w c)
 | .program k,w,es=>runT_dr p (k p) w es
 | .mark m k,w,es=>runT_dr p k w _
 | .halt h,w,es=>Nat.le_refl _
end Go.Proofs.YtfdfbenejkmnlaaGreatDoor.Dr
