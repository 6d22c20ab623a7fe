/-
 THE SECOND ENGINE, 4: the single operations do what their words say.
-/
import Derived.Test.YtfdfbenejkmnlaaGreatDoorEmB
namespace Go.Proofs.YtfdfbenejkmnlaaGreatDoor.E
open Go.RowKit
set_option linter.unusedVariables false
/-- The objects that an operation turns, and those that it reads. -/
structure Fp where
 ws:List Nat
 rd:List Nat
def St.put (σ:St) (d:Option Nat) (v:V):List V:=match d with
 |some d=>σ.t.set d v
 |none=>σ.t
def setAt (h:List HO) (b:Nat) (x:HO):List HO:=match Nat.ble h.length b with
 |true=>h++List.replicate (b - h.length) .dead++[x]
 |false=>h.set b x
def apps (h:List HO):List (Nat×HO)→List HO
 |[]=>h
 |(b,x)::r=>setAt (apps h r) b x
variable (P:Program)
def looks (o:Oper):List Nat:=o.op.operands.toList.filterMap fun| .tmp t=>some t|_=>none
/-- What is frozen is read as what it is. -/
def ths (g:V→V×List Nat):List V→List V×List Nat
 |[]=>([],[])
 |x::r=>match g x,ths g r with
   |(y,k),(ys,ks)=>(y::ys,k++ks)
def thV (h:Nat→HO):Nat→V→V×List Nat
 |0,x=>(x,[])
 | n + 1, x => match x with
   | .ow b=>match h b with
     | .fz (.sl l)=>(.sl l,[b])
     |_=>(.ow b,[])
   | .lp b o=>match h b with
     | .fz (.ip l)=>(.ip (l.drop o),[b])
     |_=>(.lp b o,[])
   | .nm b=>match h b with
     | .fz x=>(x,[b])
     |_=>(.nm b,[])
   | .ag l=>match ths (thV h n) l with
     |(l,k)=>(.ag l,k)
   | .tu l=>match ths (thV h n) l with
     |(l,k)=>(.tu l,k)
   | .cl f l=>match ths (thV h n) l with
     |(l,k)=>(.cl f l,k)
   |x=>(x,[])
noncomputable def thS:List Nat→St→St×List Nat
 |[],σ=>(σ,[])
 | t :: r, σ => match thV σ.ho 5 (σ.t.getD t .un) with
   |(y,k)=>match thS r ⟨σ.t.set t y,σ.h⟩with
     |(σ',ks)=>(σ',k++ks)
def isFz:HO→Bool
 | .fz _=>true
 |_=>false
noncomputable def thaw (o:Oper) (σ:St):St×List Nat:=match σ.h.any isFz with
 |true=>thS (looks o) σ
 |false=>(σ,[])
/-- Is the operation wanted? (What was decided stands in g, and in the slot.) -/
noncomputable def wantV {P:Program} (ops:Array Oper) (o:Oper) (g:List (Nat×Bool)) (σ:St) (sc:List (Fa P)):Option (Bool×List (Nat×Bool)×St×List (Fa P)×Ks):=match o.guard with
 |none=>some (true,g,σ,sc,[])
 | some (j, want) => match (ops[j]?).bind (·.dst) with
   |some d=>match σ.t.getD d .un with
     | .k (.bool t)=>match g.lookup j with
       |some b0=>some (b0==want,g,σ,sc,[([.k (.bool t)],[.k (.bool b0)])])
       |none=>match sc with
         | .dec t0 b0 _::sc=>some (b0==want,(j,b0)::g,⟨σ.t.set d (.k (.bool b0)),σ.h⟩,sc,[([.k (.bool t)],[.k (.bool t0)])])
         |_=>none
     | .k (.tuple _)=>some (false,g,σ,sc,[])
     |_=>none
   |none=>none
def chg {P:Program} (d:Option Nat) (v:V) (sc:List (Fa P)):V×List (Fa P)×Ks:=match d,sc with
 |some d,.eqv t v0 v1 _::sc=>match Nat.beq d t with
   |true=>(v1,sc,[([v],[v0])])
   |false=>(v,.eqv t v0 v1 ‹_› ::sc,[])
 |_,sc=>(v,sc,[])
noncomputable def stepR (ops:Array Oper) (o:Oper) (g:List (Nat×Bool)) (σ:St) (sc:List (Fa P)):Option (List (Nat×Bool)×St×Fp×List (Fa P)×Ks):=match wantV ops o g σ sc with
 |some (true,g,σ,sc,k1)=>match thaw o σ with
   |(σ2,fr)=>match aopX P o σ2 sc with
     |some r=>match chg o.dst r.v r.sc with
       |(v,sc,k2)=>some (g,⟨σ.put o.dst v,apps σ.h r.ws⟩,⟨r.ws.map (·.1),fr++r.rd⟩,sc,k1++(r.ks++k2))
     |none=>none
 |some (false,g,σ,sc,k1)=>some (g,⟨σ.put o.dst (.k undef),σ.h⟩,⟨[],[]⟩,sc,k1)
 |none=>none
noncomputable def regR (ops:Array Oper):List Oper→List (Nat×Bool)→St→List (Fa P)→Option (St×List Fp×List (Fa P)×Ks)
 |[],_,σ,sc=>some (σ,[],sc,[])
 | o :: r, g, σ, sc => match stepR P ops o g σ sc with
   |some (g,σ,fp,sc,k1)=>match regR ops r g σ sc with
     |some (σ,fps,sc,k2)=>some (σ,fp::fps,sc,k1++k2)
     |none=>none
   |none=>none
/-- Is j done ahead of k? -/
def bef (ops:Array Oper) (j:Nat):Nat→Nat→Bool
 |0,_=>false
 |n+1,k=>(predsOf ops k).any fun p=>Nat.beq p j||(Nat.ble j p&&bef ops j n p)
def Fp.conf (a b:Fp):Bool:=(a.ws.any fun x=>b.ws.contains x||b.rd.contains x)||a.rd.any fun x=>b.ws.contains x
/-- Whoever reads a slot of the region waits for it, or is waited for. -/
def depOk (ops:Array Oper):Bool:=(List.range ops.size).all fun k=>match ops[k]? with
 |none=>true
 |some o=>((List.range ops.size).all fun j=>match ops[j]? with
   |some p=>match p.dst with
     |some d=> !(looks o).contains d||((predsOf ops k).contains j||(Nat.blt k j&&bef ops k ops.size j))
     |none=>true
   |none=>true)&&match o.guard with
   |some (g,_)=>(predsOf ops k).contains g
   |none=>true
def dstOk (ops:Array Oper):Bool:=decide ((ops.toList.filterMap (·.dst)).Nodup)
def confOk (ops:Array Oper):List Fp→Nat→Bool
 |[],_=>true
 |f::r,j=>(r.zipIdx.all fun(g,i)=> !f.conf g||bef ops j ops.size (j+1+i))&&confOk ops r (j+1)
inductive Out (P:Program) where
 |bad
 |at_ (td:List Item) (σ:St) (sc:List (Fa P)) (ks:Ks)
def Out.add {P:Program} (k:Ks):Out P→Out P
 | .at_ td σ sc ks=> .at_ td σ sc (k++ks)
 | .bad=> .bad
/-- The run stops at a loop, at the end, and where it knows no way. -/
noncomputable def run:Nat→List Item→St→List (Fa P)→Out P
 |0,_,_,_=> .bad
 |_+1,[],σ,sc=> .at_ [] σ sc []
 |n+1,.inBlock _::k,σ,sc=>run n k σ sc
 |n+1,.inScope _::k,σ,sc=>run n k σ sc
 | n + 1, .code c :: k, σ, sc => match c with
   | .skip=>run n k σ sc
   | .label _=>run n k σ sc
   | .scope c=>run n (.code c:: .inScope c::k) σ sc
   | .region i ops dr=>match regR P ops ops.toList [] σ sc with
     |some (σ',fps,sc',k1)=>match nodef ops&&(!dr||(backB ops&&(depOk ops&&(dstOk ops&&confOk ops fps 0))))with
       |true=>(run n k σ' sc').add k1
       |false=> .at_ (.code (.region i ops dr)::k) σ sc []
     |none=> .at_ (.code (.region i ops dr)::k) σ sc []
   | .seq a b=>run n (.code a:: .code b::k) σ sc
   | .cond c a b=>match σ.ev c,sc with
     | .k (.bool t),.dec t0 b0 _::sc=>(run n (.code (match b0 with|true=>a|false=>b)::k) σ sc).add [([.k (.bool t)],[.k (.bool t0)])]
     |_,sc=> .at_ (.code (.cond c a b)::k) σ sc []
   | .block id c=>run n (.code c:: .inBlock id::k) σ sc
   | .exit id=>match exitTo id k with
     |some k=>run n k σ sc
     |none=> .bad
   | .loop c=> .at_ (.code c:: .inLoop c::k) σ sc []
   | .ret=> .at_ (.code .ret::k) σ sc []
   | .rangeFunc f p x y=> .at_ (.code (.rangeFunc f p x y)::k) σ sc []
   |_=> .bad
 |_+1,.inLoop c::k,σ,sc=> .at_ (.code c:: .inLoop c::k) σ sc []
 |_,_,_,_=> .bad
noncomputable def resV (P:Program) (σ:St):List ResultVar→Option (List V)
 |[]=>some []
 | r :: rs => match (match r with
   | .tmp t=>some (σ.t.getD t .un)
   | .cell a T=>match szT P T with
     |some n=>match cellsAt σ n (thV σ.ho 5 (σ.t.getD a .un)).1 with
       |some (l,_)=>pack P T l
       |none=>none
     |none=>none),resV P σ rs with
   |some v,some l=>some (v::l)
   |_,_=>none
def oneV:List V→V
 |[x]=>x
 |l=> .tu l
/-- The result, as the caller gets it. -/
noncomputable def outV (fn:Func) (σ:St) (D:RD):Option RD:=match D,resV P σ fn.results.toList with
 | .v _,some l=>match exp σ.ho 6 (thV σ.ho 6 (oneV l)).1 with
   |some (v,_)=>some (.v v)
   |none=>none
 | .io k hs _,some l=>some (.io k ((List.range hs.length).map σ.ho) (thV σ.ho 6 (oneV l)).1)
 | .o _ _ _,some [.ow b]=>match σ.ho b with
   | .rw T z l=>some (.o T z l)
   |_=>none
 |_,_=>none
def st0 (fn:Func) (ds:List V):St:=⟨ds++List.replicate (fn.ntmps - ds.length) .un,[]⟩
/-- Behind the last operation. -/
def isEnd:List Item→Bool
 |[]=>true
 | .code .ret::_=>true
 |_=>false
/-- A run to the end: what was met, what was told, the result. -/
noncomputable def runE (fn:Func) (D:RD) (td:List Item) (σ:St) (sc:List (Fa P)):Option (List (List V)×List (List V)×RD):=match run P 5000 td σ sc with
 | .at_ td' σ [] ks=>match isEnd td' with
   |true=>match outV P fn σ D with
     |some v=>some (ks.map (·.1),ks.map (·.2),v)
     |none=>none
   |false=>none
 |_=>none
def met (r:Option (List (List V)×List (List V)×RD)):Bool×List (List V)×RD:=match r with
 |some (a,_,v)=>(true,a,v)
 |none=>(false,[],.v .un)
def told (r:Option (List (List V)×List (List V)×RD)) (D:RD):Bool×List (List V)×RD:=match r with
 |some (_,b,_)=>(true,b,D)
 |none=>(true,[],D)
def body (fn:Func):List Item:=match fn.body with
 |some c=>[.code c]
 |none=>[]
end Go.Proofs.YtfdfbenejkmnlaaGreatDoor.E
namespace Go.Proofs.YtfdfbenejkmnlaaGreatDoor.E
open Go.RowKit
set_option linter.unusedVariables false
set_option linter.unusedSimpArgs false
section
variable {B:Nat→Prop} {M:Nat→Prop} {h:Nat→HO} {m m':Nat→Option Value} {w w':World} {A A':Nat→Prop} {P:Program}
theorem run_under {t:TypeId} {d:TypeDesc} (e:P.underlying t=some d) (w:World):(underlying t).run P w= .ok d w:=by simp[underlying,e]
theorem run_info {t:TypeId} {i:TypeInfo} (e:P.info? t=some i) (w:World):(typeInfo t).run P w= .ok i w:=by simp[typeInfo,e]
theorem run_size {t:TypeId} {n:Nat} (e:szT P t=some n) (w:World):(sizeOf t).run P w= .ok n w:=by
 simp only[szT,Option.map_eq_some_iff]at e
 obtain⟨i,h1,rfl⟩:=e
 simp[sizeOf,run_info h1]
theorem run_loadFrom {b o:Nat}:∀ (n i:Nat) (acc:Array Value),(∀ j,j<n→∃ u,w.cell? ⟨b,o+(i+j),none⟩=some u)→
  ∃ us:Array Value,(loadCellsFrom ⟨b,o,none⟩ i n acc).run P w= .ok (acc++us) w∧us.size=n∧∀ j,j<n→w.cell? ⟨b,o+(i+j),none⟩=some (us.getD j undef)
 |0,i,acc,_=>⟨#[],by simp[loadCellsFrom],rfl,fun j hj=>by omega⟩
 |n+1,i,acc,hc=>by
  obtain⟨u,hu⟩:=hc 0 (by omega)
  rw[Nat.add_zero]at hu
  obtain⟨us,h1,h2,h3⟩:=run_loadFrom n (i+1) (acc.push u) (fun j hj=>by
   obtain⟨x,hx⟩:=hc (j+1) (by omega)
   exact⟨x,by rw[show i+1+j=i+(j+1)by omega];exact hx⟩)
  refine⟨#[u]++us, ?_,by simp[h2];omega,fun j hj=> ?_⟩
  · simp only[loadCellsFrom,Sem.run_bind,run_load,Addr.add_lit,hu,Result.andThen_ok]
    rw[h1]
    congr 1
    apply Array.ext'
    simp
  · cases j with
    |zero=>rw[Nat.add_zero,hu,Array.getD_eq_getD_getElem?,Array.getElem?_append_left (by simp)];rfl
    |succ j=>
      rw[show i+(j+1)=i+1+j by omega,h3 j (by omega)]
      congr 1
      simp only[Array.getD_eq_getD_getElem?]
      rw[Array.getElem?_append_right (by simp)]
      simp
/-- A variable is loaded. -/
theorem load_ok {T : TypeId} {b o : Nat} {l : List V} {v : V} (hp : pack P T l = some v) (hl : ∀ j x, l[j]? = some x → ∃ u, w.cell? ⟨b, o + j, none⟩ = some u ∧ Rep w A m u x) :
  ∃ u,(loadVar T ⟨b,o,none⟩).run P w= .ok u w∧Rep w A m u v:=by
 unfold pack at hp
 split at hp
 · rename_i n hn
   split at hp
   · rename_i hlen
     have hlen:l.length=n:=by simpa using hlen
     have hagg:∀ d,P.underlying T=some d→((∃ f,d= .struct f)∨∃ k e,d= .array k e)→∃ u,(loadVar T ⟨b,o,none⟩).run P w= .ok u w∧Rep w A m u (.ag l):=by
      intro d hd hda
      obtain⟨us,h1,h2,h3⟩:=run_loadFrom (P:=P) (w:=w) (b:=b) (o:=o) n 0 #[] (fun j hj=>by
       obtain⟨u,hu,_⟩:=hl j l[j] (List.getElem?_eq_getElem (by omega))
       exact⟨u,by rw[Nat.zero_add];exact hu⟩)
      refine⟨.agg us, ?_,.ag _ us l (by omega) fun j x hx=> ?_⟩
      · rcases hda with⟨f,rfl⟩|⟨k,e,rfl⟩<;>simp[loadVar,isAgg,run_under hd,run_size hn,loadCells,h1]
      · have hj:=(List.getElem?_eq_some_iff.1 hx).1
        obtain⟨u,hu,hr⟩:=hl j x hx
        have:=h3 j (by omega)
        rw[Nat.zero_add,hu]at this
        injection this with this
        rw[←this]
        exact hr
     split at hp
     · rename_i f hd
       injection hp with hp
       subst hp
       exact hagg _ hd (.inl ⟨f,rfl⟩)
     · rename_i k e hd
       injection hp with hp
       subst hp
       exact hagg _ hd (.inr ⟨k,e,rfl⟩)
     · rename_i d hn1 hn2 hd
       split at hp
       · rename_i x _
         injection hp with hp
         subst hp
         obtain⟨u,hu,hr⟩:=hl 0 x rfl
         refine⟨u, ?_,hr⟩
         have hagg:(isAgg T).run P w= .ok false w:=by
          simp only[isAgg,Sem.run_bind,run_under hd,Result.andThen_ok]
          rfl
         simp only[loadVar,Sem.run_bind,hagg,Result.andThen_ok,Bool.false_eq_true,if_false,run_load]
         rw[Nat.add_zero]at hu
         rw[hu]
       · cases hp
     · cases hp
   · cases hp
 · cases hp
theorem one_cell {u:Value} {x:V} (hr:Rep w A m u x) (h1:one x=true):u.oneCell'=true:=by
 cases hr with
 |k=>exact h1
 |un=>cases h1
 |nm=>cases h1
 |sl=>rfl
 |ip=>rfl
 |lp=>rfl
 |rp=>rfl
 |os=>rfl
 |bs=>rfl
 |ow=>rfl
 |ag=>cases h1
 |tu=>cases h1
 |cl=>rfl
 |nl=>rfl
theorem Oth.trans {g:Nat} {w2:World} (h:Oth g w w') (k:Oth g w' w2):Oth g w w2:=
 ⟨k.os.trans h.os,k.tape.trans h.tape,k.output.trans h.output,k.size.trans h.size,fun i hi=>(k.block i hi).trans (h.block i hi)⟩
theorem run_storeCells {g o T:Nat}:∀ (vs:List Value) (i:Nat) (w:World) (cs:Array Value),(∀ v∈vs,v.oneCell'=true)→w.heap[g]? =some (.cells cs T (0,0))→o+i+vs.length≤cs.size→
  ∃ w' cs',(storeCells ⟨g,o,none⟩ vs i).run P w= .ok () w'∧Oth g w w'∧w'.heap[g]? =some (.cells cs' T (0,0))∧cs'.size=cs.size∧(∀ j,j<o+i→cs'.getD j undef=cs.getD j undef)∧(∀ j,o+i+vs.length≤j→cs'.getD j undef=cs.getD j undef)∧(∀ j,j<vs.length→cs'.getD (o+i+j) undef=vs.getD j undef)
 |[],i,w,cs,_,hg,_=>⟨w,cs,by simp[storeCells],Oth.refl _ _,hg,rfl,fun _ _=>rfl,fun _ _=>rfl,fun j hj=>by simp at hj⟩
 | v :: vs, i, w, cs, hv, hg, hlen => by
  simp only[List.length_cons]at hlen
  have hw:(w.setCell ⟨g,o+i,none⟩ v).heap[g]? =some (.cells (cs.setIfInBounds (o+i) v) T (0,0)):=by simp[World.setCell,Array.getElem?_modify,hg]
  obtain⟨w',cs',h1,h2,h3,h4,h5,h6,h7⟩:=run_storeCells (o:=o) vs (i+1) (w.setCell ⟨g,o+i,none⟩ v) (cs.setIfInBounds (o+i) v) (fun x hx=>hv x (List.mem_cons_of_mem _ hx)) hw (by rw[Array.size_setIfInBounds];omega)
  have hcell:w.cell? ⟨g,o+i,none⟩=some (cs[o+i]'(by omega)):=by simp[World.cell?,hg]
  have hfr:w.frozen? ⟨g,o+i,none⟩=false:=by simp[World.frozen?,hg]
  have hget:∀ j,j≠o+i→(cs.setIfInBounds (o+i) v).getD j undef=cs.getD j undef:=fun j hj=>by
   simp only[Array.getD_eq_getD_getElem?]
   rw[Array.getElem?_setIfInBounds_ne (by omega)]
  refine⟨w',cs', ?_,((Oth.refl g w).set_ (o+i) v).trans h2,h3,by rw[h4];simp,fun j hj=> ?_,fun j hj=> ?_,fun j hj=> ?_⟩
  · unfold storeCells
    simp only[Sem.run_bind,Addr.add_lit]
    rw[run_store P w _ v .plain (hv v (List.mem_cons_self ..))]
    simp only[hcell,hfr,Bool.false_eq_true,if_false,Result.andThen_ok]
    exact h1
  · rw[h5 j (by omega),hget j (by omega)]
  · simp only[List.length_cons]at hj
    rw[h6 j (by omega),hget j (by omega)]
  · cases j with
    |zero=>
      rw[Nat.add_zero,h5 (o+i) (by omega)]
      simp only[Array.getD_eq_getD_getElem?]
      rw[Array.getElem?_setIfInBounds_self_of_lt (by omega)]
      rfl
    |succ j=>
      simp only[List.length_cons]at hj
      have:=h7 j (by omega)
      rw[show o+i+(j+1)=o+(i+1)+j by omega,this]
      simp
/-- The cells of a value. -/
theorem ce_rep {u:Value} {x:V} (hr:Rep w A m u x) (h1:(ceV x).all one=true):u.cells.size=(ceV x).length∧(∀ j y,(ceV x)[j]? =some y→Rep w A m (u.cells.getD j undef) y)∧∀ v∈u.cells.toList,v.oneCell'=true:=by
 have hone:∀ {x:V},one x=true→Rep w A m u x→(ceV x=[x])→u.cells.size=(ceV x).length∧(∀ j y,(ceV x)[j]? =some y→Rep w A m (u.cells.getD j undef) y)∧∀ v∈u.cells.toList,v.oneCell'=true:=by
  intro x hx hr hc
  have hu:=one_cell hr hx
  have hcell:u.cells= #[u]:=by cases u<;>first|rfl|(simp[Value.oneCell']at hu)
  rw[hc,hcell]
  refine⟨rfl,fun j y hy=> ?_,fun v hv=> ?_⟩
  · cases j with
    |zero=>simp at hy;subst hy;exact hr
    |succ j=>simp at hy
  · simp at hv;subst hv;exact hu
 cases x with
 | ag l =>
   cases hr with
   |ag _ cs _ hs h6=>
     refine⟨hs,h6,fun v hv=> ?_⟩
     obtain⟨j,hj⟩:=List.mem_iff_getElem?.1 hv
     have hj':=(List.getElem?_eq_some_iff.1 hj).1
     have hlt:j<l.length:=by rw[←hs];simpa[Value.cells]using hj'
     have h2:=h6 j l[j] (List.getElem?_eq_getElem hlt)
     have h3:cs.getD j undef=v:=by
      rw[Array.getD_eq_getD_getElem?,←Array.getElem?_toList]
      rw[show cs.toList[j]? =some v from hj]
      rfl
     rw[h3]at h2
     simp only[ceV,List.all_eq_true]at h1
     exact one_cell h2 (h1 _ (List.getElem_mem hlt))
 |_=>exact hone (by simpa[ceV]using h1) hr rfl
theorem zcell_rep (v:Value):Rep w A m v (zcell v):=by
 unfold zcell
 split
 · exact .nl _
 · exact .k _ _
theorem getD_toList {cs:Array Value} {j:Nat}:cs.toList.getD j undef=cs.getD j undef:=by
 rw[List.getD_eq_getElem?_getD,Array.getD_eq_getD_getElem?,Array.getElem?_toList]
theorem zero_ok {T:TypeId} {z:Value} {l:List V} (e:zeroV P T=some (z,l)):(∀ w:World,(zeroValue T).run P w= .ok z w)∧z.cells.size=l.length∧∀ j x,l[j]? =some x→Rep w A m (z.cells.getD j undef) x:=by
 unfold zeroV at e
 split at e
 · rename_i i hi
   split at e
   · rename_i v hv
     simp only[Option.some.injEq,Prod.mk.injEq]at e
     obtain⟨rfl,rfl⟩:=e
     refine⟨fun w=>by simp[zeroValue,run_info hi,hv],by simp,fun j x hx=> ?_⟩
     rw[List.getElem?_map,Option.map_eq_some_iff]at hx
     obtain⟨u,hu,rfl⟩:=hx
     rw[←getD_toList,List.getD_eq_getElem?_getD,hu]
     exact zcell_rep u
   · cases e
 · cases e
theorem foldSet {off:Nat}:∀ (l:List Value) (k:Nat) (cs:Array Value),off+k+l.length≤cs.size→
  ((l.zipIdx k).foldl (fun cs x=>cs.setIfInBounds (off+x.2) x.1) cs).size=cs.size∧∀ j,((l.zipIdx k).foldl (fun cs x=>cs.setIfInBounds (off+x.2) x.1) cs).getD j undef=if off+k≤j∧j<off+k+l.length then l.getD (j - (off+k)) undef else cs.getD j undef
 |[],k,cs,_=>⟨rfl,fun j=>by rw[if_neg (by simp only[List.length_nil];omega)];rfl⟩
 | v :: r, k, cs, h => by
  simp only[List.length_cons]at h
  obtain⟨h1,h2⟩:=foldSet (off:=off) r (k+1) (cs.setIfInBounds (off+k) v) (by rw[Array.size_setIfInBounds];omega)
  refine⟨by simpa using h1,fun j=> ?_⟩
  simp only[List.zipIdx_cons,List.foldl_cons]
  rw[h2 j]
  simp only[List.length_cons]
  by_cases h3:off+(k+1)≤j∧j<off+(k+1)+r.length
  · rw[if_pos h3,if_pos (by omega),show j - (off+k)=j - (off+(k+1))+1 by omega]
    simp
  · rw[if_neg h3]
    simp only[Array.getD_eq_getD_getElem?]
    by_cases h4:j=off+k
    · subst h4
      rw[if_pos (by omega),Array.getElem?_setIfInBounds_self_of_lt (by omega)]
      simp
    · rw[if_neg (by omega),Array.getElem?_setIfInBounds_ne (by omega)]
theorem splice_get {l x:List V} {o:Nat} (h:o+x.length≤l.length) (j:Nat):(splice l o x).length=l.length∧(splice l o x)[j]? =if o≤j∧j<o+x.length then x[j - o]? else l[j]? :=by
 have hl:(l.take o).length=o:=by simp;omega
 refine⟨by simp[splice];omega, ?_⟩
 unfold splice
 by_cases h1:j<o
 · rw[if_neg (by omega),List.append_assoc,List.getElem?_append_left (by omega),List.getElem?_take,if_pos h1]
 · rw[List.append_assoc,List.getElem?_append_right (by omega),hl]
   by_cases h2:j<o+x.length
   · rw[if_pos (by omega),List.getElem?_append_left (by omega)]
   · rw[if_neg (by omega),List.getElem?_append_right (by omega),List.getElem?_drop]
     congr 1
     omega
/-- Parts of a value, put in. -/
theorem fill_ok {pl:Nat→Option (Nat×Nat)}:∀ (ps:List (Nat×V)) (us:List (Nat×Value)) (z:List V) (cs:Array Value) (l:List V),fillV pl z ps=some l→cs.size=z.length→(∀ j x,z[j]? =some x→Rep w A m (cs.getD j undef) x)→
  us.length=ps.length→(∀ (i:Nat) (p:Nat×V) (u:Nat×Value),ps[i]? =some p→us[i]? =some u→u.1=p.1∧Rep w A m u.2 p.2)→∃ cs',Instr.fill pl cs us=some cs'∧cs'.size=l.length∧∀ j x,l[j]? =some x→Rep w A m (cs'.getD j undef) x
 |[],[],z,cs,l,h,hs,hr,_,_=>by
  simp only[fillV,Option.some.injEq]at h
  subst h
  exact⟨cs,rfl,hs,hr⟩
 |[],_::_,_,_,_,_,_,_,h,_=>by simp at h
 |_::_,[],_,_,_,_,_,_,h,_=>by simp at h
 | (i, v) :: ps, (i', u) :: us, z, cs, l, h, hs, hr, hlen, hu => by
  obtain⟨h1,h2⟩:=hu 0 (i,v) (i',u) rfl rfl
  simp only at h1 h2
  subst h1
  simp only[fillV]at h
  split at h
  · rename_i off n hp
    split at h
    · rename_i hc
      simp only[Bool.and_eq_true,Nat.ble_eq]at hc
      obtain⟨⟨hc1,hc2⟩,hc3⟩:=hc
      have hc1:=Nat.eq_of_beq_eq_true hc1
      obtain⟨k1,k2,k3⟩:=ce_rep h2 hc3
      have hfold:=foldSet (off:=off) u.cells.toList 0 cs (by simp;omega)
      obtain⟨f1,f2⟩:=hfold
      obtain⟨cs',g1,g2,g3⟩:=fill_ok ps us (splice z off (ceV v)) _ l h (f1.trans (by rw[hs,(splice_get hc2 0).1])) (fun j x hx=>by
       rw[f2 j]
       rw[(splice_get hc2 j).2]at hx
       simp only[Nat.add_zero,Array.length_toList]at*
       by_cases h5:off≤j∧j<off+(ceV v).length
       · rw[if_pos h5]at hx
         rw[if_pos (by omega)]
         have:=k2 (j - off) x hx
         rwa [←getD_toList]at this
       · rw[if_neg h5]at hx
         rw[if_neg (by omega)]
         exact hr j x hx) (by simpa using hlen) (fun i p q h3 h4=>hu (i+1) p q (by simpa using h3) (by simpa using h4))
      refine⟨cs', ?_,g2,g3⟩
      simp only[Instr.fill,hp]
      rw[if_neg (by simp only[Bool.or_eq_true,decide_eq_true_eq,not_or];exact⟨by omega,by omega⟩)]
      rw[←Array.foldl_toList,Array.toList_zipIdx]
      exact g1
    · cases h
  · cases h
end
end Go.Proofs.YtfdfbenejkmnlaaGreatDoor.E
