/-
 THE SECOND ENGINE, 2: what single operations do.
-/
import Derived.Test.YtfdfbenejkmnlaaGreatDoorEmA
namespace Go.Proofs.YtfdfbenejkmnlaaGreatDoor.E
open Go.RowKit
set_option linter.unusedVariables false
structure St where
 t:List V
 h:List HO
def St.ho (σ:St) (b:Nat):HO:=σ.h.getD b .dead
def okF (P:Program) (f:FuncId):Prop:=∀ vs w,(callFunc f vs).run P w= .ok (.enter f vs) w
structure Reps (w:World) (A:Nat→Prop) (m:Nat→Option Value) (args:Array Value) (ds:List V):Prop where
 sz:args.size=ds.length
 el:∀ j x,ds[j]? =some x→Rep w A m (args.getD j undef) x
 gl:Glo w A
/-- What a function returns: what it stands for; or a new row, which is the caller's own from then on. -/
inductive RD where
 |v (d:V)
 |o (T z:Nat) (l:List (List V))
 |io (k:Nat) (hs:List HO) (d:V)
 |df (k:Nat) (ds:(Nat→Option Value)→List Deferred) (d:V)
/-- How many objects come in and stay. -/
def RD.n:RD→Nat
 | .io k _ _=>k
 | .df k _ _=>k
 |_=>0
/-- What is put off until the function returns. -/
def RD.rest:RD→(Nat→Option Value)→List Deferred
 | .df (_+1) ds _=>ds
 |_=>fun _=>[]
theorem RD.rest0 {d:RD} (h:d.n=0) (m0:Nat→Option Value):d.rest m0=[]:=by
 cases d with
 |df k ds v=>cases k with
   |zero=>rfl
   |succ k=>cases h
 |_=>rfl
instance:Coe V RD:=⟨RD.v⟩
def RD.ok (D:RD) (B:Nat→Prop) (M:Nat→Prop) (m0:Nat→Option Value) (w':World) (v:Value):Prop:=match D with
 | .io k hs d=>∃ h' m',Ok B M h' m' w'∧(∀ j,j<k→m' j=m0 j)∧(∀ j,j<hs.length→h' j=hs.getD j .dead)∧Rep w' (Av M h' m') m' v d
 | .v d=>Rep w' M no v d
 | .df _ _ d=>Rep w' M no v d
 | .o T z l=>(∀ cs∈l,cs.length=z)∧∃ xs,OwR w' B T z v l.length xs∧(∀ u∈xs,u.oneCell'=true)∧∀ j x,l.flatten[j]? =some x→Rep w' (fun g=>M g∨blk v=some g) no (xs.getD j undef) x
/-- What a function returns, which only makes memory. -/
def Pure (P:Program) (f:FuncId) (ds:List V) (D:RD):Prop:=
 okF P f∧∀ (w:World) (M:Nat→Prop) (args:Array Value),(∀ g,M g→g<w.heap.size)→Reps w M no args ds→Calls P f args w fun e w'=>∃ v,e= .returned v∧D.ok (fun g=>g<w.heap.size) M no w' v∧Below w.heap.size w w'
def one:V→Bool
 | .un=>false
 | .nm _=>false
 | .tu _=>false
 | .ag _=>false
 | .k v=>v.oneCell'
 |_=>true
/-- What a function does to objects that come in and stay the caller's. -/
def PureX (E:Ending→Value→Prop) (P:Program) (f:FuncId) (hs:List HO) (ds:List V) (D:RD):Prop:=
 okF P f∧∀ (w:World) (B M:Nat→Prop) (m:Nat→Option Value) (args:Array Value),Ok B M (fun b=>hs.getD b .dead) m w→(∀ b,m b≠none→b<hs.length)→(∀ b,b<D.n→m b≠none)→Reps w (Av M (fun b=>hs.getD b .dead) m) m args ds→Calls P f args w fun e w'=>∃ v,E e v∧D.ok B M m w' v∧Bl B w w'
def retE (e:Ending) (v:Value):Prop:=e= .returned v
def PureT (P:Program) (f:FuncId) (hs:List HO) (ds:List V) (D:RD):Prop:=PureX retE P f hs ds D
/-- Names told otherwise. -/
def renV (r:Nat→Nat):Nat→V→V
 |0,x=>x
 |n+1,x=>match x with
   | .lp b o=> .lp (r b) o
   | .rp b z i o=> .rp (r b) z i o
   | .ow b=> .ow (r b)
   | .nm b=> .nm (r b)
   | .os b z i j=> .os (r b) z i j
   | .bs b o n c=> .bs (r b) o n c
   | .ag l=> .ag (l.map (renV r n))
   | .tu l=> .tu (l.map (renV r n))
   | .cl f l=> .cl f (l.map (renV r n))
   |x=>x
def okV (p:Nat→Bool):Nat→V→Bool
 |0,_=>false
 |n+1,x=>match x with
   | .lp b _=>p b
   | .rp b _ _ _=>p b
   | .ow b=>p b
   | .nm b=>p b
   | .os b _ _ _=>p b
   | .bs b _ _ _=>p b
   | .ag l=>l.all (okV p n)
   | .tu l=>l.all (okV p n)
   | .cl _ l=>l.all (okV p n)
   |_=>true
def renH (r:Nat→Nat):HO→HO
 | .bx T l=> .bx T (l.map (renV r 5))
 |x=>x
def okH (p:Nat→Bool):HO→Bool
 | .bx _ l=>l.all (okV p 5)
 |_=>true
def nzV:Nat→V→V
 |0,x=>x
 |n+1,x=>match x with
   | .nl=> .sl []
   | .ag l=> .ag (l.map (nzV n))
   | .cl f l=> .cl f (l.map (nzV n))
   |x=>x
/-- An object as a word. -/
def hoV:HO→V
 | .dead=> .un
 | .bx T l=> .ag [.k (.int .i64 (T:Int)),.ag l]
 | .rw T z l=> .tu [.k (.int .i64 (T:Int)),.k (.int .i64 (z:Int)),.sl l]
 | .fz x=> .cl 0 [x]
 | .mp l=> .tu [.sl (l.map fun p=>[p.1,p.2])]
def isK:V→Bool
 | .k _=>true
 |_=>false
def kv:V→Value
 | .k v=>v
 |_=> .tuple #[]
/-- Cells of a comparable type are equal, or not. -/
def EqA (P:Program) (T:TypeId) (xs ys:List V) (b:Bool):Prop:=∀ w:World,(Op.equal T (.agg (xs.map kv).toArray) (.agg (ys.map kv).toArray)).run P w= .ok b w
/-- Bytes as cells. -/
def byL (s:List UInt8):List (List V):=s.map fun c=>[.k (.int .u8 (c.toNat:Int))]
/-- What an operation does: a value, nothing, or a call. -/
def Exec (P:Program) (o:Oper) (a:Act) (w:World) (Q:Value→World→Prop):Prop:=
 (∃ u w',(execOp a.eval o).run P w= .ok (.value u) w'∧Q u w')∨(∃ w',(execOp a.eval o).run P w= .ok .skip w'∧Q undef w')∨
 ∃ f args,(execOp a.eval o).run P w= .ok (.enter f args) w∧Calls P f args w fun e w'=>∃ u,e= .returned u∧Q u w'
def Post (B:Nat→Prop) (M:Nat→Prop) (h:Nat→HO) (m:Nat→Option Value) (w:World) (ws:List (Nat×HO)) (v:V) (u:Value) (w':World):Prop:=
 ∃ m',Ok B M (upds h ws) m' w'∧Rep w' (Av M (upds h ws) m') m' u v∧Mo w (Av M h m) m w' (Av M (upds h ws) m') m'∧Bl B w w'∧∀ b,m' b≠none→m b≠none∨b∈ws.map (·.1)
/-- What an operation does, told from outside: its operands' words, the objects that it reads and turns. -/
def Ext (P:Program) (mk:List Operand→Op) (ins:List V) (rd ws:List (Nat×HO)) (d:V):Prop:=
 ∀ (B M:Nat→Prop) (h:Nat→HO) (m:Nat→Option Value) (w:World) (a:Act) (o:Oper) (xs:List Operand),o.op=mk xs→Ok B M h m w→xs.length=ins.length→(∀ (j:Nat) (x:Operand) (v:V),xs[j]? =some x→ins[j]? =some v→Rep w (Av M h m) m (a.eval x) v)→(∀ p∈rd,h p.1=p.2)→(∀ b∈ws.map (·.1),b∉rd.map (·.1)→h b= .dead∧m b=none)→Exec P o a w (Post B M h m w ws d)
/-- Facts that a walk uses, in their order. -/
inductive Fa (P:Program) where
 |call (f:FuncId) (ds:List V) (D:RD) (h:Pure P f ds D)
 |lend (f:FuncId) (hs:List HO) (ds:List V) (D:RD) (ρ:List Nat) (h:PureT P f hs ds D)
 |dec (t b:Bool) (h:t=b)
 |sel (l:List (List V)) (i:Nat) (cs:List V) (h:l[i]? =some cs)
 |eqv (t:Nat) (v v':V) (h:v=v')
 |app (l l2 l':List (List V)) (n:Nat) (h:l++l2=l') (h0:0<l2.length) (hn:l'.length≤n)
 |aps (l l2 l':List (List V)) (n z:Nat) (h:l++l2=l') (h0:0<l2.length) (hn:l'.length≤n) (hz:∀ cs∈l2,cs.length=z∧cs.all one=true)
 |apo (l l':List (List V)) (k j n n0:Nat) (h:l.take k++(l.take n).drop j=l') (hk:k≤l.length) (hj:j<n∧n≤l.length) (hn:l'.length≤n0)
 |ape (l:List (List V)) (h:l=[])
 |ro
 |apf (l l':List (List V)) (k j:Nat) (h:l.take k=l') (hk:k≤l.length) (h0:0<l.length)
 |slo (l:List (List V)) (i j:Nat) (h2:i≤j∧j≤l.length) (h0:0<l.length)
 |upd (l:List (List V)) (i:Nat) (cs:List V) (new:List V) (l':List (List V)) (h:l[i]? =some cs) (h':l.set i new=l')
 |slc (l:List (List V)) (i j z:Nat) (l':List (List V)) (h:(l.take j).drop i=l') (h2:i≤j∧j≤l.length) (hz:∀ cs∈l,cs.length=z)
 |mk (n:Nat) (h:n≤2000000000000)
 |cpy (l l2:List (List V)) (h:l.length=l2.length) (hz:∀ cs∈l2,cs.length=1∧cs.all one=true)
 |eqa (T:TypeId) (xs ys:List V) (b:Bool) (h:EqA P T xs ys b)
 |arr
 |str (l:List (List V)) (s:List UInt8) (h:l=byL s)
 |trn (l l':List (List V)) (k:Nat) (h:l.take k=l') (hk:k≤l.length)
 |nil
 |apz (n:Nat) (h:0<n∧n≤100000)
 |ext (t:Option Nat) (mk:List Operand→Op) (ins:List V) (rd ws:List (Nat×HO)) (d:V) (h:Ext P mk ins rd ws d)
 |newr (kn ro:Bool) (f:FuncId) (ds:List V) (T z:Nat) (l:List (List V)) (h:Pure P f ds (.o T z l)) (hk:∀ cs∈l,cs.all isK=true)
abbrev Ks:=List (List V×List V)
structure R (P:Program) where
 v:V
 ws:List (Nat×HO)
 rd:List Nat
 sc:List (Fa P)
 ks:Ks
def pureRun {α:Type} (P:Program):Sem α→Option α
 | .pure a=>some a
 | .program k=>pureRun P (k P)
 |_=>none
theorem pureRun_run {α:Type} {P:Program}:∀ {x:Sem α} {a:α},pureRun P x=some a→∀ w,x.run P w= .ok a w
 | .pure b,a,h,w=>by simp only[pureRun,Option.some.injEq]at h;subst h;rfl
 | .program k,a,h,w=>by simp only[pureRun]at h;exact pureRun_run (x:=k P) h w
def cV:Value→V
 | .agg cs=> .ag (cs.toList.map .k)
 |v=> .k v
noncomputable def glV (g:Nat):V:=match gl.lookup g with
 |some l=> .ip l
 |none=> .k (.pointer (some ⟨g,0,none⟩))
noncomputable def St.ev (σ:St):Operand→V
 | .tmp t=>σ.t.getD t .un
 | .const v=>cV v
 | .global g=>glV g
 | .func f=> .cl f []
/-- A nil slice of a type. -/
def nilT (P:Program) (T:TypeId):V:=match P.underlying T with
 |some (.slice _)=> .nl
 |_=> .k (.slice none 0 0)
noncomputable def St.evT (P:Program) (σ:St) (T:TypeId):Operand→V
 | .const (.slice none 0 0)=>nilT P T
 |x=>σ.ev x
section
variable {w w':World} {A A':Nat→Prop} {m m':Nat→Option Value} {P:Program}
theorem nilT_rep {T:TypeId}:Rep w A m (.slice none 0 0) (nilT P T):=by
 unfold nilT
 split
 · exact .nl _
 · exact .k _ _
theorem cV_rep (v:Value):Rep w A m v (cV v):=by
 unfold cV
 split
 · rename_i cs
   refine .ag _ cs _ (by simp) fun j x hx=> ?_
   simp only[List.getElem?_map,Option.map_eq_some_iff]at hx
   obtain⟨y,hy,rfl⟩:=hx
   rw[Array.getD_eq_getD_getElem?,←Array.getElem?_toList,hy]
   exact .k _ _
 · exact .k _ _
theorem look_mem {l:List (Nat×List V)} {g:Nat} {x:List V} (h:l.lookup g=some x):(g,x)∈l:=by
 induction l with
 |nil=>cases h
 |cons p r ih=>
  obtain⟨q,y⟩:=p
  rw[List.lookup_cons]at h
  by_cases e:g=q
  · subst e;simp at h;subst h;exact List.mem_cons_self ..
  · rw[show(g==q)=false by simpa using e]at h
    exact List.mem_cons_of_mem _ (ih h)
theorem glV_rep (hg:Glo w A) (g:Nat):Rep w A m (.pointer (some ⟨g,0,none⟩)) (glV g):=by
 unfold glV
 split
 · rename_i l hl
   exact(hg _ (look_mem hl)).mo ⟨Nat.le_refl _,fun _ _ _=>rfl,fun _ e=> .inl e,fun _ _ e=>by simp[no]at e⟩
 · exact .k _ _
theorem ev_rep {σ:St} {a:Act} {x:Operand} (hg:Glo w A) (h:∀ t,x= .tmp t→Rep w A m (a.eval (.tmp t)) (σ.t.getD t .un)):Rep w A m (a.eval x) (σ.ev x):=by
 cases x with
 |tmp t=>exact h t rfl
 |const v=>exact cV_rep v
 |global g=>exact glV_rep hg g
 |func f=>exact .cl _ f #[] [] rfl (fun j x hx=>by simp at hx)
theorem evT_rep {σ:St} {a:Act} {x:Operand} {T:TypeId} (hg:Glo w A) (h:∀ t,x= .tmp t→Rep w A m (a.eval (.tmp t)) (σ.t.getD t .un)):Rep w A m (a.eval x) (σ.evT P T x):=by
 unfold St.evT
 split
 · exact nilT_rep
 · exact ev_rep hg h
theorem Rep.k_inv {v u:Value} (h:Rep w A m v (.k u)):v=u:=by cases h;rfl
end
def szT (P:Program) (t:TypeId):Option Nat:=(P.info? t).map (·.size)
/-- A value as its cells; what may stand in one cell. -/
def ceV:V→List V
 | .ag l=>l
 |v=>[v]
/-- Cells as a value of a type. -/
def pack (P:Program) (T:TypeId) (l:List V):Option V:=match szT P T with
 |some n=>match Nat.beq l.length n with
   |true=>match P.underlying T with
     |some (.struct _)=>some (.ag l)
     |some (.array _ _)=>some (.ag l)
     |some _=>match l with
       |[x]=>some x
       |_=>none
     |none=>none
   |false=>none
 |none=>none
def fOff (P:Program) (T f:Nat):Option (Nat×TypeId):=match P.underlying T with
 |some (.struct fs)=>match fs[f]? with
   |some x=>match szT P x.type with
     |some (_+1)=>some (x.offset,x.type)
     |_=>none
   |none=>none
 |_=>none
def zcell:Value→V
 | .slice none 0 0=> .nl
 |v=> .k v
def zeroV (P:Program) (T:TypeId):Option (Value×List V):=match P.info? T with
 |some i=>match i.zero with
   |some z=>some (z,z.cells.toList.map zcell)
   |none=>none
 |none=>none
def splice (l:List V) (o:Nat) (x:List V):List V:=l.take o++x++l.drop (o+x.length)
/-- The parts of a struct or an array. -/
def places (P:Program) (T:TypeId):Option (Nat→Option (Nat×Nat)):=match P.underlying T with
 |some (.struct fs)=>match pureRun P (fs.mapM fun f=>do pure (f.offset,←sizeOf f.type))with
   |some ps=>some (ps[·]?)
   |none=>none
 |some (.array _ e)=>match szT P e with
   |some n=>some fun i=>some (i*n,n)
   |none=>none
 |_=>none
def fillV (pl:Nat→Option (Nat×Nat)):List V→List (Nat×V)→Option (List V)
 |z,[]=>some z
 |z,(i,v)::r=>match pl i with
   |some (off,n)=>match Nat.beq (ceV v).length n&&Nat.ble (off+(ceV v).length) z.length&&(ceV v).all one with
     |true=>fillV pl (splice z off (ceV v)) r
     |false=>none
   |none=>none
/-- A value without memory of the call's own, and what is let go of for it. -/
def exps (g:V→Option (V×List Nat)):List V→Option (List V×List Nat)
 |[]=>some ([],[])
 | x :: r => match g x with
   |some (y,k)=>match exps g r with
     |some (ys,ks)=>some (y::ys,k++ks)
     |none=>none
   |none=>none
def exp (h:Nat→HO):Nat→V→Option (V×List Nat)
 |0,_=>none
 | n + 1, x => match x with
   | .lp b o=>match h b with
     | .bx _ l=>match exps (exp h n) l with
       |some (ys,ks)=>some (.ip (ys.drop o),b::ks)
       |none=>none
     |_=>none
   | .ow b=>match h b with
     | .rw _ _ l=>some (.sl l,[b])
     |_=>none
   | .rp _ _ _ _=>none
   | .nm _=>none
   | .os _ _ _ _=>none
   | .bs _ _ _ _=>none
   | .ag l=>match exps (exp h n) l with
     |some (ys,ks)=>some (.ag ys,ks)
     |none=>none
   | .tu l=>match exps (exp h n) l with
     |some (ys,ks)=>some (.tu ys,ks)
     |none=>none
   | .nl=>some (.sl [],[])
   | .cl f l=>match exps (exp h n) l with
     |some (ys,ks)=>some (.cl f ys,ks)
     |none=>none
   |x=>some (x,[])
/-- A result that knows nothing of what the call was given. -/
def flat1:V→Bool
 | .ag l=>l.all isK
 |x=>isK x
def flat:V→Bool
 | .tu l=>l.all flat1
 |x=>flat1 x
/-- What a call was given is only read from then on. -/
def self (b:Nat):HO→V
 | .rw _ _ _=> .ow b
 | .mp _=> .nm b
 |_=> .lp b 0
def frz (h:Nat→HO) (ks:List Nat) (b:Nat):HO:=match exp h 5 (self b (h b))with
 |some (y,k2)=>match k2.all fun c=>ks.contains c with
   |true=> .fz y
   |false=> .dead
 |none=> .dead
noncomputable def argV (P:Program) (σ:St):List Operand→List TypeId→List V
 |[],_=>[]
 |x::r,[]=>σ.ev x::argV P σ r []
 |x::r,T::l=>σ.evT P T x::argV P σ r l
/-- A pure operation by the model's own law: all operands are known. -/
noncomputable def purely (P:Program) (o:Oper) (σ:St) (xs:List Operand) (sc:List (Fa P)):Option (R P):=
 match (xs.all fun x=>isK (σ.ev x))with
 |true=>match pureRun P (execOp (fun x=>kv (σ.ev x)) o)with
   |some (.value z)=>some ⟨cV z,[],[],sc,[]⟩
   |_=>none
 |false=>none
def cellsAt (σ:St) (n:Nat):V→Option (List V×List Nat)
 | .lp b o=>match σ.ho b with
   | .bx _ l=>some ((l.drop o).take n,[b])
   |_=>none
 | .ip l=>some (l.take n,[])
 |_=>none
def chunks (n:Nat):Nat→List V→List (List V)
 |0,_=>[]
 |k+1,l=>l.take n::chunks n k (l.drop n)
/-- A type whose elements may be appended: their cells, their bytes. -/
def apT (P:Program) (e:TypeId):Option (Nat×Nat):=match P.info? e with
 |some i=>match i.zero with
   |some z=>match Nat.beq z.cells.size i.size&&Nat.blt 0 i.size with
     |true=>some (i.size,i.bytes)
     |false=>none
   |none=>none
 |none=>none
def apLim (n bytes:Nat):Bool:=Nat.ble (n*bytes) 140737488355328&&Nat.ble n maxLen
def ni_ (n:Nat):V:= .k (.int .i64 (n:Int))
noncomputable def appV {P:Program} (σ:St) (e:TypeId) (n bytes:Nat) (x y:V) (sc:List (Fa P)):Option (R P):=match y with
 | .ow c => match σ.ho c with
   | .rw U z2 l2 => match Nat.beq U e && Nat.beq z2 n, sc with
     | true, .app l0 l20 l' n0 _ _ _ :: sc => match apLim n0 bytes with
       |true=>match x with
         | .ow b=>match σ.ho b with
           | .rw U' z l=>match Nat.beq U' e&&Nat.beq z n with
             |true=>some ⟨.ow σ.h.length,[(σ.h.length,.rw e n l'),(b,.dead)],[b,c],sc,[([.sl l,.sl l2],[.sl l0,.sl l20])]⟩
             |false=>none
           |_=>none
         | .nl=>some ⟨.ow σ.h.length,[(σ.h.length,.rw e n l')],[c],sc,[([.sl [],.sl l2],[.sl l0,.sl l20])]⟩
         |_=>none
       |false=>none
     |_,_=>none
   |_=>none
 | .os c z2 j n2 => match x with
   | .os b z i k=>match σ.ho b,sc with
     | .rw U' z' l,.apo l0 l' k0 j0 n1 n0 _ _ _ _::sc=>match (Nat.beq b c&&(Nat.beq i 0&&(Nat.beq U' e&&(Nat.beq z' n&&(Nat.beq z n&&(Nat.beq z2 n&&apLim n0 bytes))))))with
       |true=>some ⟨.ow σ.h.length,[(σ.h.length,.rw e n l'),(b,.dead)],[b],sc,[([.sl l,ni_ k,ni_ j,ni_ n2],[.sl l0,ni_ k0,ni_ j0,ni_ n1])]⟩
       |false=>none
     | .rw U' z' l,.apf l0 l' k0 j0 _ _ _::sc=>match Nat.beq b c&&(Nat.beq i 0&&(Nat.beq U' e&&(Nat.beq z' n&&(Nat.beq z n&&Nat.beq z2 n))))with
       |true=>some ⟨.ow σ.h.length,[(σ.h.length,.rw e n l'),(b,.dead)],[b],sc,[([.sl l,ni_ k,ni_ j,ni_ n2],[.sl l0,ni_ k0,ni_ j0,ni_ j0])]⟩
       |false=>none
     |_,_=>none
   |_=>none
 | .sl l2 => match sc with
   | .ape l20 _::sc=>match x with
     | .ow b=>match σ.ho b with
       | .rw _ _ _=>some ⟨.ow b,[],[b],sc,[([.sl l2],[.sl l20])]⟩
       |_=>none
     |_=>none
   | .aps l0 l20 l' n0 z0 _ _ _ _::sc=>match Nat.beq z0 n&&apLim n0 bytes with
     |true=>match x with
       | .ow b=>match σ.ho b with
         | .rw U' z l=>match Nat.beq U' e&&Nat.beq z n with
           |true=>some ⟨.ow σ.h.length,[(σ.h.length,.rw e n l'),(b,.dead)],[b],sc,[([.sl l,.sl l2],[.sl l0,.sl l20])]⟩
           |false=>none
         |_=>none
       | .nl=>some ⟨.ow σ.h.length,[(σ.h.length,.rw e n l')],[],sc,[([.sl [],.sl l2],[.sl l0,.sl l20])]⟩
       |_=>none
     |false=>none
   |_=>none
 |_=>none
noncomputable def bsV {P:Program} (σ:St) (e:TypeId) (n len:Nat) (ps:List (Nat×V)) (sc:List (Fa P)):Option (R P):=match fillV (fun i=>some (i*n,n)) (List.replicate (len*n) .un) ps with
 |some l=>match exps (exp σ.ho 5) l with
   |some (ys,[])=>match Nat.ble (len*n) 16777216&&Nat.ble len 16777216&&ys.all one with
     |true=>some ⟨.ow σ.h.length,[(σ.h.length,.rw e n (chunks n len ys))],[],sc,[]⟩
     |false=>none
   |_=>none
 |none=>none
/-- A new row that is only read from then on. -/
def roV {P:Program} (r:R P):Option (R P):=match r.v,r.ws with
 | .ow j,[(i,x)]=>match Nat.beq j i,exp (fun _=>x) 2 (.ow j)with
   |true,some (y,[_])=>some ⟨y,[(i,.dead)],r.rd,r.sc,r.ks⟩
   |_,_=>none
 |_,_=>none
def rnm (ρ:List Nat) (k n j:Nat):Nat:=match Nat.blt j k with
 |true=>ρ.getD j 0
 |false=>n+(j - k)
def nodupB:List Nat→Bool
 |[]=>true
 |x::r=> !(r.any fun y=>Nat.beq x y)&&nodupB r
/-- A call to which objects are lent. -/
def lendV {P:Program} (σ:St) (f:Nat) (ags:List V) (f0:Nat) (hs0:List HO) (ds0:List V) (D:RD) (ρ:List Nat) (sc:List (Fa P)):Option (R P):=match D with
 | .io k hs1 d=>match (Nat.beq hs0.length k&&(Nat.beq ρ.length k&&(Nat.ble k hs1.length&&(nodupB ρ&&(ρ.all (fun b=>Nat.blt b σ.h.length)&&(hs0.all HO.own&&(hs0.all (okH fun b=>Nat.blt b k)&&(ds0.all (okV (fun b=>Nat.blt b k) 5)&&(hs1.all (okH fun b=>Nat.blt b hs1.length)&&okV (fun b=>Nat.blt b hs1.length) 5 d)))))))))with
   |true=>some ⟨renV (rnm ρ k σ.h.length) 5 d,(List.range hs1.length).map fun j=>(rnm ρ k σ.h.length j,renH (rnm ρ k σ.h.length) (hs1.getD j .dead)),ρ,sc,
     [(.cl f []::ags.map (nzV 5)++ρ.map fun b=>hoV (σ.ho b),.cl f0 []::ds0.map (renV (rnm ρ k σ.h.length) 5)++hs0.map fun x=>hoV (renH (rnm ρ k σ.h.length) x))]⟩
   |false=>none
 |_=>none
noncomputable def mkF {P:Program} (σ:St) (fn:Fn) (first:List Operand) (cs:Array Operand) (sc:List (Fa P)):Option (R P):=match fn,first with
 | .func f,[]=>some ⟨.cl f (cs.toList.map σ.ev),[],[],sc,[]⟩
 |_,_=>none
/-- An element of an array. -/
def arrV {P:Program} (e:TypeId) (n:Nat) (z:Int) (v:V) (sc:List (Fa P)):Option (R P):=match szT P e,decide (0≤z)&&decide (z<n)with
 |some q,true=>match v with
   | .lp b o=>some ⟨.lp b (o+z.toNat*q),[],[],sc,[]⟩
   | .ip l=>some ⟨.ip (l.drop (z.toNat*q)),[],[],sc,[]⟩
   | .rp b k i o=>some ⟨.rp b k i (o+z.toNat*q),[],[],sc,[]⟩
   |_=>none
 |_,_=>none
/-- A bound of a part. -/
noncomputable def St.bnd (σ:St) (n:Nat):Option Operand→V
 |some x=>σ.ev x
 |none=> .k (.int .i64 (n:Int))
noncomputable def aop (P:Program) (o:Oper) (σ:St) (sc:List (Fa P)):Option (R P):=
 match o.op with
 | .move x=>some ⟨σ.evT P o.type x,[],[],sc,[]⟩
 | .assign x=>some ⟨σ.evT P o.type x,[],[],sc,[]⟩
 | .pick c x y=>match σ.ev c with
   | .k (.bool t)=>some ⟨match t with|true=>σ.evT P o.type x|false=>σ.evT P o.type y,[],[],sc,[]⟩
   |_=>none
 | .alloc T=>match zeroV P T with
   |some (_,z)=>some ⟨.lp σ.h.length 0,[(σ.h.length,.bx T z)],[],sc,[]⟩
   |none=>none
 | .box T x=>match (ceV (σ.evT P T x)).all one with
   |true=>some ⟨.lp σ.h.length 0,[(σ.h.length,.bx T (ceV (σ.evT P T x)))],[],sc,[]⟩
   |false=>none
 | .load T x => match szT P T with
   |some n=>match σ.ev x with
     | .rp b z i o=>match σ.ho b,sc with
       | .rw U z' l,.sel l0 i0 cs _::sc=>match Nat.beq z' z,pack P T ((cs.drop o).take n)with
         |true,some v=>some ⟨v,[],[b],sc,[([.sl l,.k (.int .i64 (i:Int))],[.sl l0,.k (.int .i64 (i0:Int))])]⟩
         |_,_=>none
       |_,_=>none
     | _ => match cellsAt σ n (σ.ev x) with
       |some (l,rd)=>match pack P T l with
         |some v=>some ⟨v,[],rd,sc,[]⟩
         |none=>none
       |none=>none
   |none=>none
 | .store T p x=>match σ.ev p with
   | .lp b o=>match σ.ho b with
     | .bx U l=>match (match szT P T with|some n=>Nat.beq n (ceV (σ.evT P T x)).length|none=>false)&&Nat.ble (o+(ceV (σ.evT P T x)).length) l.length&&(ceV (σ.evT P T x)).all one with
       |true=>some ⟨.un,[(b,.bx U (splice l o (ceV (σ.evT P T x))))],[],sc,[]⟩
       |false=>none
     |_=>none
   | .rp b z i o=>match σ.ho b,exps (exp σ.ho 5) (ceV (σ.evT P T x)),sc with
     | .rw U z' l,some (ys,[]),.upd l0 i0 cs new l' _ _::sc=>match (Nat.beq z' z&&((match szT P T with|some n=>Nat.beq n (ceV (σ.evT P T x)).length|none=>false)&&(Nat.ble (o+ys.length) z&&(Nat.beq cs.length z&&(ceV (σ.evT P T x)).all one))))with
       |true=>some ⟨.un,[(b,.rw U z l')],[],sc,[([.sl l,.k (.int .i64 (i:Int)),.ag (splice cs o ys)],[.sl l0,.k (.int .i64 (i0:Int)),.ag new])]⟩
       |false=>none
     |_,_,_=>none
   |_=>none
 | .fieldAddr T x f=>match fOff P T f with
   |some (n,_)=>match σ.ev x with
     | .lp b o=>some ⟨.lp b (o+n),[],[],sc,[]⟩
     | .ip l=>some ⟨.ip (l.drop n),[],[],sc,[]⟩
     | .rp b z i o=>some ⟨.rp b z i (o+n),[],[],sc,[]⟩
     |_=>none
   |none=>none
 | .field T x f=>match fOff P T f with
   |some (n,F)=>match σ.ev x,szT P F with
     | .ag l,some k=>match pack P F ((l.drop n).take k)with
       |some v=>some ⟨v,[],[],sc,[]⟩
       |none=>none
     |_,_=>none
   |none=>none
 | .build T ps=>match zeroV P T,places P T with
   |some (_,z),some pl=>match fillV pl z (ps.toList.map fun x=>(x.1,σ.ev x.2))with
     |some l=>some ⟨.ag l,[],[],sc,[]⟩
     |none=>none
   |_,_=>none
 | .buildSlice T len ps=>match P.underlying T with
   |some (.slice e)=>match szT P e,zeroV P e with
     |some n,some _=>match sc with
       | .ro::sc=>match bsV σ e n len (ps.toList.map fun x=>(x.1,σ.evT P e x.2)) sc with
         |some r=>roV r
         |none=>none
       |sc=>bsV σ e n len (ps.toList.map fun x=>(x.1,σ.evT P e x.2)) sc
     |_,_=>none
   |_=>none
 | .makeFunc fn first cs=>mkF σ fn first.toList cs sc
 | .makeSlice T x y=>match P.underlying T,σ.ev x,σ.ev y,sc with
   |some (.slice e),.k (.int k1 a),.k (.int k2 b),.mk n _::sc=>match apT P e,zeroV P e with
     |some (z,bytes),some (_,zl)=>match exps (exp σ.ho 5) zl with
       |some (ys,[])=>match Nat.ble bytes 100&&ys.all one with
         |true=>some ⟨.ow σ.h.length,[(σ.h.length,.rw e z (List.replicate n ys))],[],sc,[([.k (.int k1 a),.k (.int k2 b)],[.k (.int k1 (n:Int)),.k (.int k2 (n:Int))])]⟩
         |false=>none
       |_=>none
     |_,_=>none
   |_,_,_,_=>none
 | .binOp _ _ x y _=>purely P o σ [x,y] sc
 | .unOp _ _ x=>purely P o σ [x] sc
 | .convert _ _ x=>purely P o σ [x] sc
 | .indexAddr T x i=>match P.underlying T,σ.ev x,σ.ev i,sc with
   |some (.slice e),.sl l,.k (.int k z),.sel l0 i0 cs _::sc=>match szT P e with
     |some n=>match Nat.beq cs.length n with
       |true=>some ⟨.ip cs,[],[],sc,[([.sl l,.k (.int k z)],[.sl l0,.k (.int k (i0:Int))])]⟩
       |false=>none
     |none=>none
   |some (.slice e),.ow b,.k (.int k z),.sel l0 i0 cs _::sc=>match σ.ho b,szT P e with
     | .rw U z' l,some n=>match Nat.beq z' n with
       |true=>some ⟨.rp b n i0 0,[],[b],sc,[([.sl l,.k (.int k z)],[.sl l0,.k (.int k (i0:Int))])]⟩
       |false=>none
     |_,_=>none
   |some (.array n e),p,.k (.int k z),sc=>arrV e n z p sc
   |_,_,_,_=>none
 | .slice T x lo hi none=>match P.underlying T,σ.ev x,sc with
   |some (.slice e),.sl l,.slc l0 i0 j0 z l' _ _ _::sc=>match szT P e with
     |some n=>match Nat.beq z n with
       |true=>some ⟨.sl l',[],[],sc,[([.sl l,σ.bnd 0 lo,σ.bnd l.length hi],[.sl l0,.k (.int .i64 (i0:Int)),.k (.int .i64 (j0:Int))])]⟩
       |false=>none
     |none=>none
   |some (.slice e),.ow b,.slo l0 i0 j0 _ _::sc=>match σ.ho b,szT P e with
     | .rw U z' l,some n=>match Nat.beq z' n with
       |true=>some ⟨.os b n i0 j0,[],[b],sc,[([.sl l,σ.bnd 0 lo,σ.bnd l.length hi],[.sl l0,.k (.int .i64 (i0:Int)),.k (.int .i64 (j0:Int))])]⟩
       |false=>none
     |_,_=>none
   |_,_,_=>none
 | .slice T x none (some y) (some y2)=>match P.underlying T,σ.ev x,sc with
   |some (.slice e),.sl l,.slc l0 i0 j0 z l' _ _ _::sc=>match szT P e with
     |some n=>match Nat.beq z n with
       |true=>some ⟨.sl l',[],[],sc,[([.sl l,.k (.int .i64 0),σ.ev y,σ.ev y2],[.sl l0,.k (.int .i64 (i0:Int)),.k (.int .i64 (j0:Int)),.k (.int .i64 (j0:Int))])]⟩
       |false=>none
     |none=>none
   |_,_,_=>none
 | .extract x i=>match σ.ev x with
   | .tu l=>match l[i]? with
     |some v=>some ⟨v,[],[],sc,[]⟩
     |none=>none
   |_=>none
 | .call c => match c.callee with
   | .builtin .len=>match c.args.toList,c.argTypes.toList with
     |[x],T::_=>match P.underlying T,σ.ev x with
       |some (.slice _),.sl l=>some ⟨.k (.int .i64 l.length),[],[],sc,[]⟩
       |some (.slice _),.nl=>some ⟨.k (.int .i64 0),[],[],sc,[]⟩
       |some (.slice _),.ow b=>match σ.ho b with
         | .rw _ _ l=>some ⟨.k (.int .i64 l.length),[],[b],sc,[]⟩
         |_=>none
       |some (.string),.k (.string t)=>some ⟨.k (.int .i64 t.size),[],[],sc,[]⟩
       |_,_=>none
     |_,_=>none
   | .builtin .max=>purely P o σ c.args.toList sc
   | .builtin .min=>purely P o σ c.args.toList sc
   | .builtin .copy=>match c.args.toList,c.argTypes.toList with
     | [x, y], [t, _] => match P.underlying t with
       |some (.slice e)=>match szT P e,σ.ev x,σ.ev y,sc with
         |some 1,.ow b,.sl l2,.cpy l0 l20 _ _::sc=>match σ.ho b with
           | .rw U 1 l=>some ⟨.k (.int .i64 l20.length),[(b,.rw U 1 l2)],[b],sc,[([.sl l,.sl l2],[.sl l0,.sl l20])]⟩
           |_=>none
         |_,_,_,_=>none
       |_=>none
     |_,_=>none
   | .builtin .append=>match c.args.toList,c.argTypes.toList with
     |[x,y],[t,t']=>match P.underlying t with
       |some (.slice e)=>match Nat.beq t t',apT P e with
         |true,some (n,bytes)=>appV σ e n bytes (σ.evT P t x) (σ.ev y) sc
         |_,_=>none
       |_=>none
     |_,_=>none
   | .value x => match σ.ev x with
     | .cl f caps => match sc with
       | .lend f0 hs0 ds0 D ρ _::sc=>lendV σ f (argV P σ c.args.toList c.argTypes.toList++caps) f0 hs0 ds0 D ρ sc
       | sc => match exps (exp σ.ho 5) (argV P σ c.args.toList c.argTypes.toList ++ caps), sc with
         |some (ds,ks),.call f0 ds0 D _::sc=>match D with
           | .v d=>match ks with
             |[]=>some ⟨d,[],[],sc,[(.cl f []::ds,.cl f0 []::ds0)]⟩
             |_=>match flat d with
               |true=>some ⟨d,[],ks,sc,[(.cl f []::ds,.cl f0 []::ds0)]⟩
               |false=>some ⟨d,ks.map fun b=>(b,frz σ.ho ks b),ks,sc,[(.cl f []::ds,.cl f0 []::ds0)]⟩
           | .o T z l=>some ⟨.ow σ.h.length,(σ.h.length,.rw T z l)::ks.map fun b=>(b,frz σ.ho ks b),ks,sc,[(.cl f []::ds,.cl f0 []::ds0)]⟩
           | .io _ _ _=>none
           | .df _ _ _=>none
         |_,_=>none
     |_=>none
   |_=>none
 |_=>none
def kills (ks:List Nat):List (Nat×HO):=ks.map fun b=>(b,.dead)
/-- As exp, but a nil slice stays one. -/
def expN (kn:Bool) (h:Nat→HO) (n:Nat):V→Option (V×List Nat)
 | .nl=>match kn with
   |true=>some (.nl,[])
   |false=>some (.sl [],[])
 |x=>exp h n x
/-- A call whose result is a new row that holds nothing but numbers. -/
noncomputable def newV (P:Program) (o:Oper) (σ:St) (kn ro:Bool) (f0:FuncId) (ds0:List V) (T z:Nat) (l:List (List V)) (sc:List (Fa P)):Option (R P):=match o.op with
 | .call c => match c.callee with
   | .value x=>match σ.ev x with
     | .cl f caps=>match exps (expN kn σ.ho 5) (argV P σ c.args.toList c.argTypes.toList++caps)with
       |some (ds,ks)=>match ro with
         |true=>some ⟨.sl l,[],ks,sc,[(.cl f []::ds,.cl f0 []::ds0)]⟩
         |false=>some ⟨.ow σ.h.length,[(σ.h.length,.rw T z l)],ks,sc,[(.cl f []::ds,.cl f0 []::ds0)]⟩
       |none=>none
     |_=>none
   |_=>none
 |_=>none
noncomputable def eqaV (P:Program) (o:Oper) (σ:St) (T0:TypeId) (xs ys:List V) (b:Bool) (sc:List (Fa P)):Option (R P):=match o.op with
 | .binOp op T x y _=>match σ.ev x,σ.ev y with
   | .ag l1,.ag l2=>match l1.all isK&&(l2.all isK&& !P.eqGuardType P.depth T)with
     |true=>match op with
       | .eql=>some ⟨.k (.bool b),[],[],sc,[([.k (.int .i64 (T:Int)),.ag l1,.ag l2],[.k (.int .i64 (T0:Int)),.ag xs,.ag ys])]⟩
       | .neq=>some ⟨.k (.bool (!b)),[],[],sc,[([.k (.int .i64 (T:Int)),.ag l1,.ag l2],[.k (.int .i64 (T0:Int)),.ag xs,.ag ys])]⟩
       |_=>none
     |false=>none
   |_,_=>none
 |_=>none
/-- An array as a row, which is only read from then on. -/
noncomputable def arrS (P:Program) (o:Oper) (σ:St) (sc:List (Fa P)):Option (R P):=match o.op with
 | .slice T x none none none=>match P.underlying T,σ.ev x with
   |some (.array n e),.lp b 0=>match szT P e,exp σ.ho 6 (.lp b 0)with
     |some q,some (.ip ys,ks)=>match Nat.beq ys.length (n*q)&&(Nat.blt 0 (n*q)&&Nat.ble n 1000)with
       |true=>some ⟨.sl (chunks q n ys),kills ks,ks,sc,[]⟩
       |false=>none
     |_,_=>none
   |_,_=>none
 |_=>none
noncomputable def strV (P:Program) (o:Oper) (σ:St) (l0:List (List V)) (s:List UInt8) (sc:List (Fa P)):Option (R P):=match o.op with
 | .convert S D x=>match P.underlying S,P.underlying D,σ.ev x with
   |some (.slice e),some .string,.sl l=>match P.underlying e with
     |some (.int .u8)=>some ⟨.k (.string ⟨s.toArray⟩),[],[],sc,[([.sl l],[.sl l0])]⟩
     |_=>none
   |_,_,_=>none
 |_=>none
noncomputable def trnV (P:Program) (o:Oper) (σ:St) (l0 l':List (List V)) (k:Nat) (sc:List (Fa P)):Option (R P):=match o.op with
 | .slice T x none hi none=>match P.underlying T,σ.ev x with
   |some (.slice e),.ow b=>match σ.ho b,szT P e with
     | .rw U z l,some n=>some ⟨.ow σ.h.length,[(σ.h.length,.rw U z l'),(b,.dead)],[b],sc,[([.sl l,σ.bnd l.length hi],[.sl l0,.k (.int .i64 (k:Int))])]⟩
     |_,_=>none
   |_,_=>none
 |_=>none
noncomputable def nilV (P:Program) (o:Oper) (σ:St) (sc:List (Fa P)):Option (R P):=match o.op with
 | .slice T x none hi none=>match P.underlying T,σ.ev x with
   |some (.slice e),.nl=>match szT P e with
     |some n=>some ⟨.nl,[],[],sc,[([σ.bnd 0 hi],[.k (.int .i64 0)])]⟩
     |_=>none
   |_,_=>none
 | .call c=>match c.callee with
   | .builtin .cap=>match c.args.toList,c.argTypes.toList with
     |[x],T::_=>match P.underlying T,σ.ev x with
       |some (.slice _),.nl=>some ⟨.k (.int .i64 0),[],[],sc,[]⟩
       |_,_=>none
     |_,_=>none
   |_=>none
 |_=>none
/-- append of zeros to nil. -/
noncomputable def apzV (P:Program) (o:Oper) (σ:St) (n:Nat) (sc:List (Fa P)):Option (R P):=match o.op with
 | .call c => match c.callee with
   | .builtin .append=>match c.args.toList,c.argTypes.toList with
     | [x, y], [T, tn] => match P.underlying T, P.underlying tn, σ.evT P T x, σ.ev y with
       |some (.slice e),some (.int _),.nl,.k (.int k a)=>match apT P e,zeroV P e with
         |some (z,bytes),some (_,zl)=>match exps (exp σ.ho 5) zl with
           |some (ys,[])=>match Nat.ble bytes 100&&ys.all one with
             |true=>some ⟨.ow σ.h.length,[(σ.h.length,.rw e z (List.replicate n ys))],[],sc,[([.k (.int k a)],[.k (.int k (n:Int))])]⟩
             |false=>none
           |_=>none
         |_,_=>none
       |_,_,_,_=>none
     |_,_=>none
   |_=>none
 |_=>none
/-- An element of an array that is a value. -/
noncomputable def idxV (P:Program) (o:Oper) (σ:St) (sc:List (Fa P)):Option (R P):=match o.op with
 | .index T x i=>match P.underlying T,σ.ev x,σ.ev i with
   |some (.array n e),.ag l,.k (.int k z)=>match szT P e,decide (0≤z)&&decide (z<n)with
     |some q,true=>match pack P e ((l.drop (z.toNat*q)).take q)with
       |some v=>some ⟨v,[],[],sc,[]⟩
       |none=>none
     |_,_=>none
   |_,_,_=>none
 |_=>none
/-- The operation that is meant. -/
def isDst:Option Nat→Option Nat→Bool
 |some d,some t=>Nat.beq d t
 |none,none=>true
 |_,_=>false
noncomputable def extV {P:Program} (o:Oper) (σ:St) (mk:List Operand→Op) (ins:List V) (rd ws:List (Nat×HO)) (d:V) (sc:List (Fa P)):Option (R P):=
 match (rd.all fun p=>p.2.own&&Nat.blt p.1 σ.h.length)&&(ws.all fun p=>(rd.any fun q=>Nat.beq q.1 p.1)||Nat.ble σ.h.length p.1)with
 |true=>some ⟨d,ws,rd.map (·.1),sc,[((V.op o.op::o.op.operands.toList.map σ.ev)++rd.map (fun p=>hoV (σ.ho p.1)),(V.op (mk o.op.operands.toList)::ins)++rd.map (fun p=>hoV p.2))]⟩
 |false=>none
noncomputable def ruleX (P:Program) (o:Oper) (σ:St) (sc:List (Fa P)):Option (R P):=match sc with
 | .eqa T xs ys b _::sc=>eqaV P o σ T xs ys b sc
 | .arr::sc=>arrS P o σ sc
 | .str l s _::sc=>strV P o σ l s sc
 | .trn l l' k _ _::sc=>trnV P o σ l l' k sc
 | .nil::sc=>nilV P o σ sc
 | .apz n _::sc=>apzV P o σ n sc
 | .newr kn ro f ds T z l _ _::sc=>newV P o σ kn ro f ds T z l sc
 | .ext t mk ins rd ws d _::sc=>match isDst o.dst t with
   |true=>extV o σ mk ins rd ws d sc
   |false=>none
 |_=>none
/-- **What an operation does.** -/
noncomputable def aopX (P:Program) (o:Oper) (σ:St) (sc:List (Fa P)):Option (R P):=match ruleX P o σ sc with
 |some r=>some r
 |none=>match idxV P o σ sc with
   |some r=>some r
   |none=>aop P o σ sc
end Go.Proofs.YtfdfbenejkmnlaaGreatDoor.E
