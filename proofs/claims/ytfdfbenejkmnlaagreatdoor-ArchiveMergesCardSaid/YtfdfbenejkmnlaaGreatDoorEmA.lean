/-
 THE SECOND ENGINE, 1: what values stand for, memory of the call's own, and what stays true.
-/
import Derived.Test.YtfdfbenejkmnlaaGreatDoorFlowR
import Derived.Test.YtfdfbenejkmnlaaGreatDoorChecked
import Derived.RangeFuncLeaves
import Derived.Scope
import Derived.RangeFuncNested
namespace Go.Proofs.YtfdfbenejkmnlaaGreatDoor.E
open Go.RowKit
set_option linter.unusedVariables false
/-- What a value stands for: known; unknown; a row of ints; a row that is only read; a pointer to cells that are only read; a pointer into a box of the call's own; one into a row of its own (elements of z cells); such a row; cells; a tuple; a function with what it has captured. -/
inductive V where
 |k (v:Value)
 |un
 |sl (l:List (List V))
 |ip (l:List V)
 |lp (b o:Nat)
 |rp (b z i o:Nat)
 |ow (b:Nat)
 |ag (l:List V)
 |tu (l:List V)
 |cl (f:Nat) (l:List V)
 |nl
 |os (b z i j:Nat)
 |op (o:Op)
 |nm (b:Nat)
 |bs (b o n c:Nat)
 deriving Inhabited
/-- Memory of the call's own. -/
inductive HO where
 |dead
 |bx (T:Nat) (l:List V)
 |rw(T z:Nat) (l:List (List V))
 |fz (x:V)
 |mp (l:List (V×V))
 deriving Inhabited
/-- What is alive, and the call's own. -/
def gI (x:Int):V:= .k (.int .i64 x)
def gB (b:Bool):V:= .k (.bool b)
/-- The words of the round constants. -/
def shaK:List Int:=[1116352408,1899447441,3049323471,3921009573,961987163,1508970993,2453635748,2870763221,3624381080,310598401,607225278,1426881987,1925078388,2162078206,2614888103,3248222580,3835390401,4022224774,264347078,604807628,770255983,1249150122,1555081692,1996064986,2554220882,2821834349,2952996808,3210313671,3336571891,3584528711,113926993,338241895,666307205,773529912,1294757372,1396182291,1695183700,1986661051,2177026350,2456956037,2730485921,2820302411,3259730800,3345764771,3516065817,3600352804,4094571909,275423344,430227734,506948616,659060556,883997877,958139571,1322822218,1537002063,1747873779,1955562222,2024104815,2227730452,2361852424,2428436474,2756734187,3204031479,3329325298]
def gW (x:Int):V:= .k (.int .u32 x)
/-- What the package's variables are laid with. -/
def glTab:List (String×List V):=[("sherd/claim.needs",[gI 0,gI 0,gB false,gB true,gI 1,gI 16,gB true,gB false,gI 2,gI 16,gB false,gB false,gI 1,gI 16,gB false,gB false]),("sherd/hash.constants",shaK.map gW),("sherd/sherdref02.constants",shaK.map gW)]
def glo (P:Program):List (Nat×List V):=glTab.filterMap fun x=>(P.globalNamed x.1).map fun g=>(g,x.2)
def HO.own:HO→Bool
 | .bx _ _=>true
 | .rw _ _ _=>true
 | .mp _=>true
 |_=>false
def no:Nat→Option Value:=fun _=>none
def blk:Value→Option Nat
 | .pointer (some a)=>some a.block
 | .slice (some a) _ _=>some a.block
 | .map (some r)=>some r
 |_=>none
/-- A block of cells. -/
def CB (w:World) (b:Nat):Prop:=∃ cs T fr,w.heap[b]? =some (.cells cs T fr)
theorem CB.lt {w:World} {b:Nat} (h:CB w b):b<w.heap.size:=by
 obtain⟨cs,T,fr,h⟩:=h
 exact(Array.getElem?_eq_some_iff.1 h).1
inductive Rep (w:World) (A:Nat→Prop):(Nat→Option Value)→Value→V→Prop
 |k (m:Nat→Option Value) (v:Value):Rep w A m v (.k v)
 |un (m:Nat→Option Value) (v:Value):Rep w A m v .un
 |sl (m:Nat→Option Value) (a:Option Addr) (b o c z:Nat) (l:List (List V)) (us:Nat→Nat→Value) (h1:l.length≤c) (h2:c≤maxLen) (h3:0<l.length→a=some ⟨b,o,none⟩∧¬A b∧CB w b) (h4:∀ cs∈l,cs.length=z)
   (h5:∀ i j cs x,l[i]? =some cs→cs[j]? =some x→w.cell? ⟨b,o+i*z+j,none⟩=some (us i j)) (h6:∀ i j cs x,l[i]? =some cs→cs[j]? =some x→Rep w A no (us i j) x):Rep w A m (.slice a l.length c) (.sl l)
 |ip (m:Nat→Option Value) (b o:Nat) (l:List V) (us:Nat→Value) (h3:¬A b) (h4:CB w b) (h5:∀ j x,l[j]? =some x→w.cell? ⟨b,o+j,none⟩=some (us j)) (h6:∀ j x,l[j]? =some x→Rep w A no (us j) x):Rep w A m (.pointer (some ⟨b,o,none⟩)) (.ip l)
 |lp (m:Nat→Option Value) (b o g:Nat) (h:m b=some (.pointer (some ⟨g,0,none⟩))):Rep w A m (.pointer (some ⟨g,o,none⟩)) (.lp b o)
 |rp (m:Nat→Option Value) (b z i o g n c:Nat) (h:m b=some (.slice (some ⟨g,0,none⟩) n c)):Rep w A m (.pointer (some ⟨g,i*z+o,none⟩)) (.rp b z i o)
 |ow (m:Nat→Option Value) (b:Nat) (a:Option Addr) (n c:Nat) (h:m b=some (.slice a n c)):Rep w A m (.slice a n c) (.ow b)
 |ag (m:Nat→Option Value) (cs:Array Value) (l:List V) (h:cs.size=l.length) (h6:∀ j x,l[j]? =some x→Rep w A m (cs.getD j undef) x):Rep w A m (.agg cs) (.ag l)
 |tu (m:Nat→Option Value) (cs:Array Value) (l:List V) (h:cs.size=l.length) (h6:∀ j x,l[j]? =some x→Rep w A m (cs.getD j undef) x):Rep w A m (.tuple cs) (.tu l)
 |cl (m:Nat→Option Value) (f:Nat) (cs:Array Value) (l:List V) (h:cs.size=l.length) (h6:∀ j x,l[j]? =some x→Rep w A m (cs.getD j undef) x):Rep w A m (.func (.func f) #[] cs) (.cl f l)
 |nl (m:Nat→Option Value):Rep w A m (.slice none 0 0) .nl
 |nm (m:Nat→Option Value) (b:Nat) (v:Value) (h:m b=some v):Rep w A m v (.nm b)
 |bs (m:Nat→Option Value) (b o n c g:Nat) (h:m b=some (.pointer (some ⟨g,0,none⟩))):Rep w A m (.slice (some ⟨g,o,none⟩) n c) (.bs b o n c)
 |os (m:Nat→Option Value) (b z i j g n c:Nat) (h:m b=some (.slice (some ⟨g,0,none⟩) n c)) (h1:i≤j) (h2:j≤n):Rep w A m (.slice (if c=i then some ⟨g,0,none⟩else some ⟨g,i*z,none⟩) (j - i) (c - i)) (.os b z i j)
/-- From one world to a later one. -/
structure Mo (w:World) (A:Nat→Prop) (m:Nat→Option Value) (w':World) (A':Nat→Prop) (m':Nat→Option Value):Prop where
 size:w.heap.size≤w'.heap.size
 blk:∀ g,g<w.heap.size→¬A g→w'.heap[g]? =w.heap[g]?
 av:∀ g,A' g→A g∨w.heap.size≤g
 mm:∀ b v,m b=some v→m' b=some v
section
variable {w w' w2:World} {A A' A2:Nat→Prop} {m m' m2:Nat→Option Value}
theorem Mo.refl:Mo w A m w A m:=⟨Nat.le_refl _,fun _ _ _=>rfl,fun _ h=> .inl h,fun _ _ h=>h⟩
theorem Mo.trans (h:Mo w A m w' A' m') (g:Mo w' A' m' w2 A2 m2):Mo w A m w2 A2 m2 where
 size:=Nat.le_trans h.size g.size
 blk b hb hA:=by
  rw[g.blk b (Nat.lt_of_lt_of_le hb h.size) fun hA'=>(h.av b hA').elim hA fun e=>absurd hb (by omega)]
  exact h.blk b hb hA
 av b hb:=by
  rcases g.av b hb with h1|h1
  · exact h.av b h1
  · exact .inr (Nat.le_trans h.size h1)
 mm b v e:=g.mm b v (h.mm b v e)
theorem Mo.cell (h:Mo w A m w' A' m') {b:Nat} (hb:b<w.heap.size) (hA:¬A b) (o:Nat):w'.cell? ⟨b,o,none⟩=w.cell? ⟨b,o,none⟩:=World.cell?_of_block (a:=⟨b,o,none⟩) (h.blk b hb hA)
theorem Mo.av' (h:Mo w A m w' A' m') {b:Nat} (hb:b<w.heap.size) (hA:¬A b):¬A' b:=fun e=>(h.av b e).elim hA fun e=>absurd hb (by omega)
theorem CB.mo {b:Nat} (h:CB w b) (g:Mo w A m w' A' m') (hA:¬A b):CB w' b:=by
 have hl:=h.lt
 obtain⟨cs,T,fr,h⟩:=h
 exact⟨cs,T,fr,(g.blk b hl hA).trans h⟩
theorem Mo.no (g:Mo w A m w' A' m'):Mo w A no w' A' no:=⟨g.size,g.blk,g.av,fun _ _ h=>h⟩
theorem Rep.mo {v:Value} {x:V} (h:Rep w A m v x):∀ {m'},Mo w A m w' A' m'→Rep w' A' m' v x:=by
 induction h with
 |k m v=>exact fun _=> .k _ v
 |un m v=>exact fun _=> .un _ v
 |sl m a b o c z l us h1 h2 h3 h4 h5 h6 ih=>
   intro m' g
   have hl:∀ {i cs},l[i]? =some cs→0<l.length:=fun{i cs} e=>by have:=(List.getElem?_eq_some_iff.1 e).1;omega
   exact .sl _ a b o c z l us h1 h2 (fun hn=>⟨(h3 hn).1,g.av' (h3 hn).2.2.lt (h3 hn).2.1,(h3 hn).2.2.mo g (h3 hn).2.1⟩) h4
    (fun i j cs x e1 e2=>(g.cell (h3 (hl e1)).2.2.lt (h3 (hl e1)).2.1 _).trans (h5 i j cs x e1 e2)) (fun i j cs x e1 e2=>ih i j cs x e1 e2 g.no)
 |ip m b o l us h3 h4 h5 h6 ih=>exact fun g=> .ip _ b o l us (g.av' h4.lt h3) (h4.mo g h3) (fun j x e=>(g.cell h4.lt h3 _).trans (h5 j x e)) (fun j x e=>ih j x e g.no)
 |lp m b o g' h=>exact fun g=> .lp _ b o g' (g.mm _ _ h)
 |rp m b z i o g' n c h=>exact fun g=> .rp _ b z i o g' n c (g.mm _ _ h)
 |ow m b a n c h=>exact fun g=> .ow _ b a n c (g.mm _ _ h)
 |os m b z i j g' n c h h1 h2=>exact fun g=> .os _ b z i j g' n c (g.mm _ _ h) h1 h2
 |ag m cs l h h6 ih=>exact fun g=> .ag _ cs l h fun j x e=>ih j x e g
 |tu m cs l h h6 ih=>exact fun g=> .tu _ cs l h fun j x e=>ih j x e g
 |cl m f cs l h h6 ih=>exact fun g=> .cl _ f cs l h fun j x e=>ih j x e g
 |nl m=>exact fun g=> .nl _
 |nm m b v h=>exact fun g=> .nm _ b v (g.mm _ _ h)
 |bs m b o n c g' h=>exact fun g=> .bs _ b o n c g' (g.mm _ _ h)
/-- A block that holds no cells turns. -/
theorem Rep.put {v:Value} {x:V} (h:Rep w A m v x) {D:Nat} {o o':Obj} (ho:w.heap[D]? =some o) (hc:o.isCells=false):Rep (w.putObj D o') A m v x:=by
 have hb:∀ b,CB w b→(w.putObj D o').heap[b]? =w.heap[b]? :=fun b ⟨cs,T,fr,hb⟩=>World.putObj_heap_other fun e=>by
  subst e
  rw[hb]at ho
  injection ho with ho
  subst ho
  cases hc
 have hcb:∀ b,CB w b→CB (w.putObj D o') b:=fun b h=>by
  obtain⟨cs,T,fr,h1⟩:=h
  exact⟨cs,T,fr,(hb b ⟨cs,T,fr,h1⟩).trans h1⟩
 induction h with
 |k m v=>exact .k _ v
 |un m v=>exact .un _ v
 |sl m a b o c z l us h1 h2 h3 h4 h5 h6 ih=>
   have hl:∀ {i cs},l[i]? =some cs→0<l.length:=fun{i cs} e=>by have:=(List.getElem?_eq_some_iff.1 e).1;omega
   exact .sl _ a b o c z l us h1 h2 (fun hn=>⟨(h3 hn).1,(h3 hn).2.1,hcb b (h3 hn).2.2⟩) h4 (fun i j cs x e1 e2=>(World.cell?_of_block (a:=⟨b,_,none⟩) (hb b (h3 (hl e1)).2.2)).trans (h5 i j cs x e1 e2)) ih
 |ip m b o l us h3 h4 h5 h6 ih=>exact .ip _ b o l us h3 (hcb b h4) (fun j x e=>(World.cell?_of_block (a:=⟨b,_,none⟩) (hb b h4)).trans (h5 j x e)) ih
 |lp m b o g' h=>exact .lp _ b o g' h
 |rp m b z i o g' n c h=>exact .rp _ b z i o g' n c h
 |ow m b a n c h=>exact .ow _ b a n c h
 |os m b z i j g' n c h h1 h2=>exact .os _ b z i j g' n c h h1 h2
 |ag m cs l h h6 ih=>exact .ag _ cs l h ih
 |tu m cs l h h6 ih=>exact .tu _ cs l h ih
 |cl m f cs l h h6 ih=>exact .cl _ f cs l h ih
 |nl m=>exact .nl _
 |nm m b v h=>exact .nm _ b v h
 |bs m b o n c g' h=>exact .bs _ b o n c g' h
end
/-- The package's variables that are only read: their cells, as far as they are told. -/
noncomputable def gl:List (Nat×List V):=glo Tryz.prog
def Glo (w:World) (A:Nat→Prop):Prop:=∀ p∈gl,Rep w A no (.pointer (some ⟨p.1,0,none⟩)) (.ip p.2)
theorem Glo.mo {w w':World} {A A':Nat→Prop} {m m':Nat→Option Value} (h:Glo w A) (g:Mo w A m w' A' m'):Glo w' A':=fun p hp=>(h p hp).mo g.no
/-- What is not to be met: the caller's blocks M, and those of what is alive. -/
def Av (M:Nat→Prop) (h:Nat→HO) (m:Nat→Option Value) (g:Nat):Prop:=M g∨∃ b v,(h b).own=true∧m b=some v∧blk v=some g
/-- What is not the call's own stays. -/
structure Bl (B:Nat→Prop) (w w':World):Prop where
 os:w'.os=w.os
 tape:w'.tape=w.tape
 output:w'.output=w.output
 size:w.heap.size≤w'.heap.size
 block:∀ k,B k→w'.heap[k]? =w.heap[k]?
theorem Bl.refl (B:Nat→Prop) (w:World):Bl B w w:=⟨rfl,rfl,rfl,Nat.le_refl _,fun _ _=>rfl⟩
theorem Bl.trans {B:Nat→Prop} {a b c:World} (h:Bl B a b) (k:Bl B b c):Bl B a c:=⟨k.os.trans h.os,k.tape.trans h.tape,k.output.trans h.output,Nat.le_trans h.size k.size,fun i hi=>(k.block i hi).trans (h.block i hi)⟩
theorem Bl.of {B:Nat→Prop} {w w':World} (h:Below w.heap.size w w') (hB:∀ g,B g→g<w.heap.size):Bl B w w':=⟨h.os,h.tape,h.output,h.size,fun k hk=>h.block k (hB k hk)⟩
theorem Bl.drew {B:Nat→Prop} {a w:World} (h:Bl B a w):Bl B a w.drew:=⟨h.os,h.tape,h.output,h.size,h.block⟩
theorem Bl.below {w w':World} (h:Bl (fun g=>g<w.heap.size) w w'):Below w.heap.size w w':=⟨h.os,h.tape,h.output,h.size,h.block⟩
theorem Bl.grown {B:Nat→Prop} {w w':World} {row:Option Nat} (hg:w.grownBy w' row) (hB:∀ g,B g→g<w.heap.size) (hr:∀ k,row=some k→¬B k):Bl B w w':=⟨hg.os,hg.tape,hg.output,hg.size,fun k hk=>hg.block k (hB k hk) (fun e=>hr k e.symm hk)⟩
/-- A row of the call's own. -/
def OwR (w:World) (B:Nat→Prop) (e:TypeId) (size:Nat) (v:Value) (n:Nat) (xs:List Value):Prop:=
 xs.length=n*size∧((v= .slice none 0 0∧n=0)∨∃ g cap cur,v= .slice (some ⟨g,0,none⟩) n cap∧¬B g∧w.heap[g]? =some (.cells cur e (0,0))∧n≤cap∧cap≤maxLen∧cur.size=cap*size∧cur.toList.take (n*size)=xs)
theorem OwR.kit {w:World} {B:Nat→Prop} {e:TypeId} {size n:Nat} {v:Value} {xs:List Value} (h:OwR w B e size v n xs):w.ownsRow 0 e size v n xs:=
 ⟨h.1,h.2.imp id fun⟨g,cap,cur,h1,_,h3⟩=>⟨g,cap,cur,h1,Nat.zero_le _,h3⟩⟩
theorem OwR.of {w:World} {B:Nat→Prop} {b:Nat} {e:TypeId} {size n:Nat} {v:Value} {xs:List Value} (h:w.ownsRow b e size v n xs) (hB:∀ g,b≤g→blk v=some g→¬B g):OwR w B e size v n xs:=
 ⟨h.1,h.2.imp id fun⟨g,cap,cur,h1,h2,h3⟩=>⟨g,cap,cur,h1,hB g h2 (by rw[h1];rfl),h3⟩⟩
theorem OwR.below {w w':World} {B:Nat→Prop} {e:TypeId} {size n:Nat} {v:Value} {xs:List Value} (h:OwR w B e size v n xs) (hb:Below w.heap.size w w'):OwR w' B e size v n xs:=
 ⟨h.1,h.2.imp id fun⟨g,cap,cur,h1,h2,h3,h4⟩=>⟨g,cap,cur,h1,h2,(hb.block g (Array.getElem?_eq_some_iff.1 h3).1).trans h3,h4⟩⟩
/-- What a map holds. -/
def MpO (w:World) (A:Nat→Prop) (o:Option Obj) (l:List (V×V)):Prop:=∃ es clk,o=some (.map es clk)∧es.size=l.length∧∀ (j:Nat) (x:V×V) (e:MapEntry),l[j]? =some x→es[j]? =some e→Rep w A no e.key x.1∧Rep w A no e.val x.2
theorem MpO.mo {w w':World} {A A':Nat→Prop} {m m':Nat→Option Value} {o:Option Obj} {l:List (V×V)} (h:MpO w A o l) (g:Mo w A m w' A' m'):MpO w' A' o l:=by
 obtain⟨es,clk,h1,h2,h3⟩:=h
 exact⟨es,clk,h1,h2,fun j x e hx he=>⟨(h3 j x e hx he).1.mo g.no,(h3 j x e hx he).2.mo g.no⟩⟩
structure Ok (B:Nat→Prop) (M:Nat→Prop) (h:Nat→HO) (m:Nat→Option Value) (w:World):Prop where
 bx:∀ b T l,h b= .bx T l→∃ g cs,m b=some (.pointer (some ⟨g,0,none⟩))∧¬B g∧w.heap[g]? =some (.cells cs T (0,0))∧cs.size=l.length∧∀ j x,l[j]? =some x→Rep w (Av M h m) m (cs.getD j undef) x
 rw:∀ b T z l,h b= .rw T z l→∃ v xs,m b=some v∧(∀ cs∈l,cs.length=z)∧OwR w B T z v l.length xs∧(∀ u∈xs,u.oneCell'=true)∧∀ j x,l.flatten[j]? =some x→Rep w (Av M h m) no (xs.getD j undef) x
 fz:∀ b x,h b= .fz x→∃ v,m b=some v∧Rep w (Av M h m) no v x
 mp:∀ b l,h b= .mp l→∃ g,m b=some (.map (some g))∧¬B g∧g<w.heap.size∧MpO w (Av M h m) w.heap[g]? l
 inj:∀ b b' v v' g,(h b).own=true→(h b').own=true→m b=some v→m b'=some v'→blk v=some g→blk v'=some g→b=b'
 mb:∀ g,M g→B g
 bs:∀ g,B g→g<w.heap.size
 gl:Glo w (Av M h m)
def upd {α:Type} (h:Nat→α) (b:Nat) (x:α):Nat→α:=fun c=>if c=b then x else h c
theorem upd_eq {α:Type} {h:Nat→α} {b:Nat} {x:α}:upd h b x b=x:=if_pos rfl
theorem upd_ne {α:Type} {h:Nat→α} {b c:Nat} {x:α} (e:c≠b):upd h b x c=h c:=if_neg e
def upds (h:Nat→HO):List (Nat×HO)→Nat→HO
 |[]=>h
 |(b,x)::r=>upd (upds h r) b x
section
variable {B:Nat→Prop} {M:Nat→Prop} {h:Nat→HO} {m:Nat→Option Value} {w w':World}
/-- A live object's block is from B on, and there. -/
theorem Ok.blk (K:Ok B M h m w) {b:Nat} {v:Value} {g:Nat} (hb:(h b).own=true) (hm:m b=some v) (hg:E.blk v=some g):¬B g∧g<w.heap.size:=by
 cases hx:h b with
 |dead=>rw[hx]at hb;cases hb
 |fz x=>rw[hx]at hb;cases hb
 |mp l=>
   obtain⟨g',h1,h2,h3,_⟩:=K.mp b l hx
   rw[hm]at h1
   injection h1 with h1
   subst h1
   simp only[E.blk,Option.some.injEq]at hg
   subst hg
   exact⟨h2,h3⟩
 |bx T l=>
   obtain⟨g',cs,h1,h2,h3,_⟩:=K.bx b T l hx
   rw[hm]at h1
   injection h1 with h1
   subst h1
   simp only[E.blk,Option.some.injEq]at hg
   subst hg
   exact⟨h2,(Array.getElem?_eq_some_iff.1 h3).1⟩
 |rw T z l=>
   obtain⟨v',xs,h1,_,h3,_,_⟩:=K.rw b T z l hx
   rw[hm]at h1
   injection h1 with h1
   subst h1
   rcases h3.2 with⟨rfl,_⟩|⟨g',cap,cur,rfl,hB,hh,_⟩
   · simp[E.blk]at hg
   · simp only[E.blk,Option.some.injEq]at hg
     subst hg
     exact⟨hB,(Array.getElem?_eq_some_iff.1 hh).1⟩
theorem Ok.av_lt (K:Ok B M h m w) {g:Nat} (hg:Av M h m g):g<w.heap.size:=by
 rcases hg with h1|⟨b,v,hb,hm,e⟩
 · exact K.bs g (K.mb g h1)
 · exact(K.blk hb hm e).2
/-- Where what is alive, and its names, stay. -/
theorem Ok.keep (K:Ok B M h m w) (g:Mo w (Av M h m) m w' (Av M h m) m) (hl:∀ g,¬B g→g<w.heap.size→Av M h m g→w'.heap[g]? =w.heap[g]?):Ok B M h m w' where
 bx b T l e:=by
  obtain⟨g',cs,h1,h2,h3,h4,h5⟩:=K.bx b T l e
  have hd:(h b).own=true:=by rw[e];rfl
  refine⟨g',cs,h1,h2, ?_,h4,fun j x hx=>(h5 j x hx).mo g⟩
  rw[hl g' h2 (Array.getElem?_eq_some_iff.1 h3).1 (.inr ⟨b,_,hd,h1,rfl⟩)]
  exact h3
 rw b T z l e := by
  obtain⟨v,xs,h1,h2,h3,h0,h4⟩:=K.rw b T z l e
  have hd:(h b).own=true:=by rw[e];rfl
  refine⟨v,xs,h1,h2,⟨h3.1, ?_⟩,h0,fun j x hx=>(h4 j x hx).mo g.no⟩
  rcases h3.2 with h5|⟨g',cap,cur,rfl,hB,hh,r⟩
  · exact .inl h5
  · refine .inr ⟨g',cap,cur,rfl,hB, ?_,r⟩
    rw[hl g' hB (Array.getElem?_eq_some_iff.1 hh).1 (.inr ⟨b,_,hd,h1,rfl⟩)]
    exact hh
 fz b x e:=by
  obtain⟨v,h1,h2⟩:=K.fz b x e
  exact⟨v,h1,h2.mo g.no⟩
 mp b l e:=by
  obtain⟨g',h1,h2,h3,h4⟩:=K.mp b l e
  refine⟨g',h1,h2,Nat.lt_of_lt_of_le h3 g.size, ?_⟩
  rw[hl g' h2 h3 (.inr ⟨b,_,by rw[e];rfl,h1,rfl⟩)]
  exact h4.mo g
 inj:=K.inj
 mb:=K.mb
 bs g' hg':=Nat.lt_of_lt_of_le (K.bs g' hg') g.size
 gl:=K.gl.mo g
/-- A call, a draw: nothing that was there turns. -/
theorem Mo.call (hb:Below w.heap.size w w') {A:Nat→Prop}:Mo w A m w' A m:=⟨hb.size,fun g hg _=>hb.block g hg,fun _ h=> .inl h,fun _ _ h=>h⟩
theorem Ok.call (K:Ok B M h m w) (hb:Below w.heap.size w w'):Ok B M h m w':=K.keep (.call hb) fun g _ hg _=>hb.block g hg
/-- What is let go of. -/
theorem av_kill {M:Nat→Prop} {b g:Nat} (e:Av M (upd h b .dead) m g):Av M h m g:=by
 rcases e with e|⟨c,v,h1,h2,h3⟩
 · exact .inl e
 · refine .inr ⟨c,v, ?_,h2,h3⟩
   by_cases hc:c=b
   · subst hc;rw[upd_eq]at h1;cases h1
   · rwa [upd_ne hc]at h1
theorem Mo.kill {b:Nat}:Mo w (Av M h m) m w (Av M (upd h b .dead) m) m:=⟨Nat.le_refl _,fun _ _ _=>rfl,fun g e=> .inl (av_kill e),fun _ _ h=>h⟩
theorem Ok.kill (K:Ok B M h m w) (b:Nat):Ok B M (upd h b .dead) m w where
 bx c T l e := by
  by_cases hc:c=b
  · subst hc;rw[upd_eq]at e;cases e
  · rw[upd_ne hc]at e
    obtain⟨g',cs,h1,h2,h3,h4,h5⟩:=K.bx c T l e
    exact⟨g',cs,h1,h2,h3,h4,fun j x hx=>(h5 j x hx).mo Mo.kill⟩
 rw c T z l e := by
  by_cases hc:c=b
  · subst hc;rw[upd_eq]at e;cases e
  · rw[upd_ne hc]at e
    obtain⟨v,xs,h1,h2,h3,h0,h4⟩:=K.rw c T z l e
    exact⟨v,xs,h1,h2,h3,h0,fun j x hx=>(h4 j x hx).mo (Mo.no .kill)⟩
 fz c x e := by
  by_cases hc:c=b
  · subst hc;rw[upd_eq]at e;cases e
  · rw[upd_ne hc]at e
    obtain⟨v,h1,h2⟩:=K.fz c x e
    exact⟨v,h1,h2.mo (Mo.no .kill)⟩
 mp c l e := by
  by_cases hc:c=b
  · subst hc;rw[upd_eq]at e;cases e
  · rw[upd_ne hc]at e
    obtain⟨g',h1,h2,h3,h4⟩:=K.mp c l e
    exact⟨g',h1,h2,h3,h4.mo Mo.kill⟩
 inj c c' v v' g h1 h2 h3 h4 h5 h6:=by
  have hc:c≠b:=fun e=>by subst e;rw[upd_eq]at h1;cases h1
  have hc':c'≠b:=fun e=>by subst e;rw[upd_eq]at h2;cases h2
  rw[upd_ne hc]at h1
  rw[upd_ne hc']at h2
  exact K.inj c c' v v' g h1 h2 h3 h4 h5 h6
 mb:=K.mb
 bs:=K.bs
 gl:=K.gl.mo Mo.kill
/-- A new object. -/
theorem av_new {b:Nat} {x:HO} {u:Value} (hd:h b= .dead) (hm:m b=none) {g:Nat} (e:Av M (upd h b x) (upd m b (some u)) g):Av M h m g∨blk u=some g:=by
 rcases e with e|⟨c,v,h1,h2,h3⟩
 · exact .inl (.inl e)
 · by_cases hc:c=b
   · subst hc
     rw[upd_eq]at h2
     injection h2 with h2
     subst h2
     exact .inr h3
   · rw[upd_ne hc]at h1 h2
     exact .inl (.inr ⟨c,v,h1,h2,h3⟩)
theorem Mo.new {b:Nat} {x:HO} {u:Value} (hd:h b= .dead) (hm:m b=none) (hu:∀ g,E.blk u=some g→w.heap.size≤g) (hb:Below w.heap.size w w'):Mo w (Av M h m) m w' (Av M (upd h b x) (upd m b (some u))) (upd m b (some u)):=
 ⟨hb.size,fun g hg _=>hb.block g hg,fun g e=>(av_new hd hm e).imp id (hu g),fun c v e=>by
  by_cases hc:c=b
  · subst hc;rw[hm]at e;cases e
  · rw[upd_ne hc];exact e⟩
theorem Ok.new (K:Ok B M h m w) {b:Nat} {x:HO} {u:Value} (hd:h b= .dead) (hm:m b=none) (hu:∀ g,E.blk u=some g→w.heap.size≤g) (hb:Below w.heap.size w w')
  (hx1:∀ T l,x= .bx T l→∃ g cs,u= .pointer (some ⟨g,0,none⟩)∧w'.heap[g]? =some (.cells cs T (0,0))∧cs.size=l.length∧∀ j x,l[j]? =some x→Rep w (Av M h m) m (cs.getD j undef) x)
  (hx2:∀ T z l,x= .rw T z l→∃ xs,(∀ cs∈l,cs.length=z)∧OwR w' B T z u l.length xs∧(∀ u∈xs,u.oneCell'=true)∧∀ j x,l.flatten[j]? =some x→Rep w (Av M h m) no (xs.getD j undef) x)
  (hx3:∀ y,x= .fz y→Rep w (Av M h m) no u y) (hx4:∀ l,x= .mp l→∃ g,u= .map (some g)∧g<w'.heap.size∧MpO w (Av M h m) w'.heap[g]? l:=by intro _ e;cases e):Ok B M (upd h b x) (upd m b (some u)) w':=by
 have g:Mo w (Av M h m) m w' (Av M (upd h b x) (upd m b (some u))) (upd m b (some u)):= .new hd hm hu hb
 have K':=K.call hb
 refine⟨fun c T l e=> ?_,fun c T z l e=> ?_,fun c l e=> ?_,fun c l e=> ?_,fun c c' v v' g' h1 h2 h3 h4 h5 h6=> ?_,K.mb,fun g' hg'=>Nat.lt_of_lt_of_le (K.bs g' hg') hb.size,K.gl.mo g⟩
 · by_cases hc:c=b
   · subst hc
     rw[upd_eq]at e
     obtain⟨g',cs,h1,h2,h3,h4⟩:=hx1 T l e
     subst h1
     exact⟨g',cs,upd_eq,fun hB=>by have:=K.bs g' hB;have:=hu g' rfl;omega,h2,h3,fun j x hx=>(h4 j x hx).mo g⟩
   · rw[upd_ne hc]at e
     obtain⟨g',cs,h1,h2,h3,h4,h5⟩:=K.bx c T l e
     obtain⟨g2,cs2,k1,k2,k3,k4,k5⟩:=K'.bx c T l e
     rw[h1]at k1
     injection k1 with k1
     injection k1 with k1
     injection k1 with k1
     injection k1 with k1
     subst k1
     have hlt:=(Array.getElem?_eq_some_iff.1 h3).1
     have h3':=(hb.block g' hlt).trans h3
     exact⟨g',cs,(upd_ne hc).trans h1,h2,h3',h4,fun j x hx=>(h5 j x hx).mo g⟩
 · by_cases hc:c=b
   · subst hc
     rw[upd_eq]at e
     obtain⟨xs,h1,h2,h0,h3⟩:=hx2 T z l e
     exact⟨u,xs,upd_eq,h1,h2,h0,fun j x hx=>(h3 j x hx).mo g.no⟩
   · rw[upd_ne hc]at e
     obtain⟨v,xs,h1,h2,h3,h0,h4⟩:=K.rw c T z l e
     refine⟨v,xs,(upd_ne hc).trans h1,h2,h3.below hb,h0,fun j x hx=>(h4 j x hx).mo g.no⟩
 · by_cases hc:c=b
   · subst hc
     rw[upd_eq]at e
     exact⟨u,upd_eq,(hx3 l e).mo g.no⟩
   · rw[upd_ne hc]at e
     obtain⟨v,h1,h3⟩:=K.fz c l e
     exact⟨v,(upd_ne hc).trans h1,h3.mo g.no⟩
 · by_cases hc:c=b
   · subst hc
     rw[upd_eq]at e
     obtain⟨g',h1,h2,h3⟩:=hx4 l e
     subst h1
     exact⟨g',upd_eq,fun hB=>by have:=K.bs g' hB;have:=hu g' rfl;omega,h2,h3.mo g⟩
   · rw[upd_ne hc]at e
     obtain⟨g',h1,h2,h3,h4⟩:=K.mp c l e
     refine⟨g',(upd_ne hc).trans h1,h2,Nat.lt_of_lt_of_le h3 hb.size, ?_⟩
     rw[hb.block g' h3]
     exact h4.mo g
 · by_cases hc:c=b
   · subst hc
     rw[upd_eq]at h3
     injection h3 with h3
     subst h3
     by_cases hc':c'=c
     · exact hc'.symm
     · rw[upd_ne hc']at h2 h4
       have:=(K.blk h2 h4 h6).2
       have:=hu g' h5
       omega
   · rw[upd_ne hc]at h1 h3
     by_cases hc':c'=b
     · subst hc'
       rw[upd_eq]at h4
       injection h4 with h4
       subst h4
       have:=(K.blk h1 h3 h5).2
       have:=hu g' h6
       omega
     · rw[upd_ne hc']at h2 h4
       exact K.inj c c' v v' g' h1 h2 h3 h4 h5 h6
theorem Ok.newAt (K:Ok B M h m w) {b T z:Nat} {l:List (List V)} {xs:List Value} {u:Value} (hd:h b= .dead) (hm:m b=none) (hu:∀ g,E.blk u=some g→w.heap.size≤g) (hb:Below w.heap.size w w')
  (hx1:∀ cs∈l,cs.length=z) (hx2:OwR w' B T z u l.length xs) (hx0:∀ u∈xs,u.oneCell'=true) (hx3:∀ j x,l.flatten[j]? =some x→Rep w' (fun g=>Av M h m g∨E.blk u=some g) no (xs.getD j undef) x):Ok B M (upd h b (.rw T z l)) (upd m b (some u)) w':=by
 have g:Mo w (Av M h m) m w' (Av M (upd h b (.rw T z l)) (upd m b (some u))) (upd m b (some u)):= .new hd hm hu hb
 have K':=K.call hb
 refine⟨fun c T l e=> ?_,fun c T z l e=> ?_,fun c l e=> ?_,fun c l e=> ?_,fun c c' v v' g' h1 h2 h3 h4 h5 h6=> ?_,K.mb,fun g' hg'=>Nat.lt_of_lt_of_le (K.bs g' hg') hb.size,K.gl.mo g⟩
 · by_cases hc:c=b
   · subst hc
     rw[upd_eq]at e
     cases e
   · rw[upd_ne hc]at e
     obtain⟨g',cs,h1,h2,h3,h4,h5⟩:=K.bx c T l e
     obtain⟨g2,cs2,k1,k2,k3,k4,k5⟩:=K'.bx c T l e
     rw[h1]at k1
     injection k1 with k1
     injection k1 with k1
     injection k1 with k1
     injection k1 with k1
     subst k1
     have hlt:=(Array.getElem?_eq_some_iff.1 h3).1
     have h3':=(hb.block g' hlt).trans h3
     exact⟨g',cs,(upd_ne hc).trans h1,h2,h3',h4,fun j x hx=>(h5 j x hx).mo g⟩
 · by_cases hc:c=b
   · subst hc
     rw[upd_eq]at e
     injection e with e1 e2 e3
     subst e1;subst e2;subst e3
     exact⟨u,xs,upd_eq,hx1,hx2,hx0,fun j x hx=>(hx3 j x hx).mo ⟨Nat.le_refl _,fun _ _ _=>rfl,fun g e=> .inl (av_new hd hm e),fun _ _ e=>e⟩⟩
   · rw[upd_ne hc]at e
     obtain⟨v,xs,h1,h2,h3,h0,h4⟩:=K.rw c T z l e
     refine⟨v,xs,(upd_ne hc).trans h1,h2,h3.below hb,h0,fun j x hx=>(h4 j x hx).mo g.no⟩
 · by_cases hc:c=b
   · subst hc
     rw[upd_eq]at e
     cases e
   · rw[upd_ne hc]at e
     obtain⟨v,h1,h3⟩:=K.fz c l e
     exact⟨v,(upd_ne hc).trans h1,h3.mo g.no⟩
 · by_cases hc:c=b
   · subst hc
     rw[upd_eq]at e
     cases e
   · rw[upd_ne hc]at e
     obtain⟨g',h1,h2,h3,h4⟩:=K.mp c l e
     refine⟨g',(upd_ne hc).trans h1,h2,Nat.lt_of_lt_of_le h3 hb.size, ?_⟩
     rw[hb.block g' h3]
     exact h4.mo g
 · by_cases hc:c=b
   · subst hc
     rw[upd_eq]at h3
     injection h3 with h3
     subst h3
     by_cases hc':c'=c
     · exact hc'.symm
     · rw[upd_ne hc']at h2 h4
       have:=(K.blk h2 h4 h6).2
       have:=hu g' h5
       omega
   · rw[upd_ne hc]at h1 h3
     by_cases hc':c'=b
     · subst hc'
       rw[upd_eq]at h4
       injection h4 with h4
       subst h4
       have:=(K.blk h1 h3 h5).2
       have:=hu g' h6
       omega
     · rw[upd_ne hc']at h2 h4
       exact K.inj c c' v v' g' h1 h2 h3 h4 h5 h6
/-- One block turns. -/
structure Oth (g:Nat) (w w':World):Prop where
 os:w'.os=w.os
 tape:w'.tape=w.tape
 output:w'.output=w.output
 size:w'.heap.size=w.heap.size
 block:∀ k,k≠g→w'.heap[k]? =w.heap[k]?
theorem Oth.refl (g:Nat) (w:World):Oth g w w:=⟨rfl,rfl,rfl,rfl,fun _ _=>rfl⟩
theorem Oth.set_ {g:Nat} {w w':World} (h:Oth g w w') (j:Nat) (u:Value):Oth g w (w'.setCell ⟨g,j,none⟩ u):=
 ⟨h.os,h.tape,h.output,by simpa[World.setCell]using h.size,fun k hk=>(Below.heap_setCell w' ⟨g,j,none⟩ u k hk).trans (h.block k hk)⟩
theorem Oth.below {g:Nat} (h:Oth g w w') (hB:¬B g):Bl B w w':=⟨h.os,h.tape,h.output,Nat.le_of_eq h.size.symm,fun k hk=>h.block k (fun e=>hB (e▸hk))⟩
theorem av_turn {b:Nat} {x:HO} (hd:(h b).own=true) {g:Nat} (e:Av M (upd h b x) m g):Av M h m g:=by
 rcases e with e|⟨c,v,h1,h2,h3⟩
 · exact .inl e
 · refine .inr ⟨c,v, ?_,h2,h3⟩
   by_cases hc:c=b
   · subst hc;exact hd
   · rwa [upd_ne hc]at h1
theorem Ok.turn (K:Ok B M h m w) {b:Nat} {x:HO} {u:Value} {g:Nat} (hd:(h b).own=true) (hm:m b=some u) (hg:E.blk u=some g) (ho:Oth g w w')
  (hx1:∀ T l,x= .bx T l→∃ cs,u= .pointer (some ⟨g,0,none⟩)∧w'.heap[g]? =some (.cells cs T (0,0))∧cs.size=l.length∧∀ j x,l[j]? =some x→Rep w (Av M h m) m (cs.getD j undef) x)
  (hx2:∀ T z l,x= .rw T z l→∃ xs,(∀ cs∈l,cs.length=z)∧OwR w' B T z u l.length xs∧(∀ u∈xs,u.oneCell'=true)∧∀ j x,l.flatten[j]? =some x→Rep w (Av M h m) no (xs.getD j undef) x)
  (hx3:x.own=true) (hx4:∀ l,x= .mp l→u= .map (some g)∧MpO w (Av M h m) w'.heap[g]? l:=by intro _ e;cases e):Ok B M (upd h b x) m w'∧Mo w (Av M h m) m w' (Av M (upd h b x) m) m:=by
 have hG:=K.blk hd hm hg
 have hav:∀ g',¬Av M h m g'→g'≠g:=fun g' hn e=>hn (by subst e;exact .inr ⟨b,u,hd,hm,hg⟩)
 have hmo:Mo w (Av M h m) m w' (Av M (upd h b x) m) m:=⟨Nat.le_of_eq ho.size.symm,fun g' _ hn=>ho.block g' (hav g' hn),fun g' e=> .inl (av_turn hd e),fun _ _ e=>e⟩
 have hoth:∀ {c v g'},c≠b→(h c).own=true→m c=some v→E.blk v=some g'→w'.heap[g']? =w.heap[g']? :=fun{c v g'} hc hl hv hb=>
  ho.block g' (fun e=>hc (K.inj c b v u g' hl hd hv hm hb (by rw[e];exact hg)))
 have hrow:∀ {c v T z n xs},c≠b→(h c).own=true→m c=some v→OwR w B T z v n xs→OwR w' B T z v n xs:=fun{c v T z n xs} hc hl hv h3=>by
  refine⟨h3.1, ?_⟩
  rcases h3.2 with h5|⟨g',cap,cur,rfl,hB,hh,r⟩
  · exact .inl h5
  · exact .inr ⟨g',cap,cur,rfl,hB,(hoth hc hl hv rfl).trans hh,r⟩
 refine⟨⟨fun c T l e=> ?_,fun c T z l e=> ?_,fun c l e=> ?_,fun c l e=> ?_,fun c c' v v' g' h1 h2 h3 h4 h5 h6=> ?_,K.mb,by rw[ho.size];exact K.bs,K.gl.mo hmo⟩,hmo⟩
 · by_cases hc:c=b
   · subst hc
     rw[upd_eq]at e
     obtain⟨cs,h1,h2,h3,h4⟩:=hx1 T l e
     exact⟨g,cs,by rw[←h1];exact hm,hG.1,h2,h3,fun j x hx=>(h4 j x hx).mo hmo⟩
   · rw[upd_ne hc]at e
     obtain⟨g',cs,h1,h2,h3,h4,h5⟩:=K.bx c T l e
     exact⟨g',cs,h1,h2,(hoth hc (by rw[e];rfl) h1 rfl).trans h3,h4,fun j x hx=>(h5 j x hx).mo hmo⟩
 · by_cases hc:c=b
   · subst hc
     rw[upd_eq]at e
     obtain⟨xs,h1,h2,h0,h3⟩:=hx2 T z l e
     exact⟨u,xs,hm,h1,h2,h0,fun j x hx=>(h3 j x hx).mo hmo.no⟩
   · rw[upd_ne hc]at e
     obtain⟨v,xs,h1,h2,h3,h0,h4⟩:=K.rw c T z l e
     exact⟨v,xs,h1,h2,hrow hc (by rw[e];rfl) h1 h3,h0,fun j x hx=>(h4 j x hx).mo hmo.no⟩
 · by_cases hc:c=b
   · subst hc
     rw[upd_eq]at e
     rw[e]at hx3;cases hx3
   · rw[upd_ne hc]at e
     obtain⟨v,h1,h3⟩:=K.fz c l e
     exact⟨v,h1,h3.mo hmo.no⟩
 · by_cases hc:c=b
   · subst hc
     rw[upd_eq]at e
     obtain⟨h1,h2⟩:=hx4 l e
     exact⟨g,by rw[←h1];exact hm,hG.1,by rw[ho.size];exact hG.2,h2.mo hmo⟩
   · rw[upd_ne hc]at e
     obtain⟨g',h1,h2,h3,h4⟩:=K.mp c l e
     refine⟨g',h1,h2,by rw[ho.size];exact h3, ?_⟩
     rw[hoth hc (by rw[e];rfl) h1 rfl]
     exact h4.mo hmo
 · have hl:∀ {c},(upd h b x c).own=true→(h c).own=true:=fun{c} hc=>by
     by_cases hcb:c=b
     · subst hcb;exact hd
     · rwa [upd_ne hcb]at hc
   exact K.inj c c' v v' g' (hl h1) (hl h2) h3 h4 h5 h6
/-- A row of the call's own grows: in its place, or into a new one. -/
theorem Ok.app (K:Ok B M h m w) {b i:Nat} {x:HO} {u u':Value} (hl:(h b).own=true) (hmb:m b=some u) (hbu:E.blk u=u.ownBlock) (hib:i≠b) (hd:h i= .dead) (hm:m i=none) (hg:w.grownBy w' u.ownBlock) (hu:∀ g,E.blk u'=some g→E.blk u=some g∨w.heap.size≤g)
  (hx0:∀ T l,x≠ .bx T l) (hx2:∀ T z l,x= .rw T z l→∃ xs,(∀ cs∈l,cs.length=z)∧OwR w' B T z u' l.length xs∧(∀ u∈xs,u.oneCell'=true)∧∀ j x,l.flatten[j]? =some x→Rep w (Av M h m) no (xs.getD j undef) x)
  (hx3:x.own=true) (hx4:∀ l,x≠ .mp l:=by intro _ e;cases e):Ok B M (upd (upd h b .dead) i x) (upd m i (some u')) w'∧Mo w (Av M h m) m w' (Av M (upd (upd h b .dead) i x) (upd m i (some u'))) (upd m i (some u')):=by
 have hold:∀ {c},(upd (upd h b .dead) i x c).own=true→c≠i→c≠b∧upd (upd h b .dead) i x c=h c:=fun{c} hc hci=>by
  rw[upd_ne hci]at hc⊢
  by_cases hcb:c=b
  · subst hcb;rw[upd_eq]at hc;cases hc
  · exact⟨hcb,upd_ne hcb⟩
 have hav : ∀ g, Av M (upd (upd h b .dead) i x) (upd m i (some u')) g → Av M h m g ∨ w.heap.size ≤ g := by
  rintro g (e|⟨c,v,h1,h2,h3⟩)
  · exact .inl (.inl e)
  · by_cases hci:c=i
    · subst hci
      rw[upd_eq]at h2
      injection h2 with h2
      subst h2
      exact(hu g h3).imp (fun e=> .inr ⟨b,u,hl,hmb,e⟩) id
    · obtain⟨h4,h5⟩:=hold h1 hci
      rw[h5]at h1
      rw[upd_ne hci]at h2
      exact .inl (.inr ⟨c,v,h1,h2,h3⟩)
 have hmo:Mo w (Av M h m) m w' (Av M (upd (upd h b .dead) i x) (upd m i (some u'))) (upd m i (some u')):=by
  refine⟨hg.size,fun g hgl hn=>hg.block g hgl fun e=>hn (.inr ⟨b,u,hl,hmb,hbu.trans e.symm⟩),hav,fun c v e=> ?_⟩
  by_cases hc:c=i
  · subst hc;rw[hm]at e;cases e
  · rw[upd_ne hc];exact e
 have hne:∀ {c v g},c≠b→(h c).own=true→m c=some v→E.blk v=some g→w'.heap[g]? =w.heap[g]? :=fun{c v g} hc hd' hv hb'=>
  hg.block g (K.blk hd' hv hb').2 fun e=>hc (K.inj c b v u g hd' hl hv hmb hb' (hbu.trans e.symm))
 have hrow:∀ {c v T z n xs},c≠b→(h c).own=true→m c=some v→OwR w B T z v n xs→OwR w' B T z v n xs:=fun{c v T z n xs} hc hd' hv h3=>by
  refine⟨h3.1, ?_⟩
  rcases h3.2 with h5|⟨g',cap,cur,rfl,hB,hh,r⟩
  · exact .inl h5
  · exact .inr ⟨g',cap,cur,rfl,hB,(hne hc hd' hv rfl).trans hh,r⟩
 refine⟨⟨fun c T l e=> ?_,fun c T z l e=> ?_,fun c l e=> ?_,fun c l e=> ?_,fun c c' v v' g h1 h2 h3 h4 h5 h6=> ?_,K.mb,fun g' hg'=>Nat.lt_of_lt_of_le (K.bs g' hg') hg.size,K.gl.mo hmo⟩,hmo⟩
 · by_cases hc:c=i
   · subst hc;rw[upd_eq]at e;exact absurd e (hx0 T l)
   · obtain⟨h4,h5⟩:=hold (by rw[e];rfl) hc
     rw[h5]at e
     obtain⟨g',cs,k1,k2,k3,k4,k5⟩:=K.bx c T l e
     exact⟨g',cs,(upd_ne hc).trans k1,k2,(hne h4 (by rw[e];rfl) k1 rfl).trans k3,k4,fun j y hy=>(k5 j y hy).mo hmo⟩
 · by_cases hc:c=i
   · subst hc
     rw[upd_eq]at e
     obtain⟨xs,h1,h2,h0,h3⟩:=hx2 T z l e
     exact⟨u',xs,upd_eq,h1,h2,h0,fun j x hx=>(h3 j x hx).mo hmo.no⟩
   · obtain⟨h4,h5⟩:=hold (by rw[e];rfl) hc
     rw[h5]at e
     obtain⟨v,xs,k1,k2,k3,k0,k4⟩:=K.rw c T z l e
     exact⟨v,xs,(upd_ne hc).trans k1,k2,hrow h4 (by rw[e];rfl) k1 k3,k0,fun j x hx=>(k4 j x hx).mo hmo.no⟩
 · by_cases hc:c=i
   · subst hc
     rw[upd_eq]at e
     rw[e]at hx3;cases hx3
   · rw[upd_ne hc]at e
     have hcb:c≠b:=fun e'=>by subst e';rw[upd_eq]at e;cases e
     rw[upd_ne hcb]at e
     obtain⟨v,h1,h3⟩:=K.fz c l e
     exact⟨v,(upd_ne hc).trans h1,h3.mo hmo.no⟩
 · by_cases hc:c=i
   · subst hc;rw[upd_eq]at e;exact absurd e (hx4 l)
   · obtain⟨h4,h5⟩:=hold (by rw[e];rfl) hc
     rw[h5]at e
     obtain⟨g',k1,k2,k3,k4⟩:=K.mp c l e
     refine⟨g',(upd_ne hc).trans k1,k2,Nat.lt_of_lt_of_le k3 hg.size, ?_⟩
     rw[hne h4 (by rw[e];rfl) k1 rfl]
     exact k4.mo hmo
 · by_cases hc:c=i
   · subst hc
     rw[upd_eq]at h3
     injection h3 with h3
     subst h3
     by_cases hc':c'=c
     · exact hc'.symm
     · obtain⟨k1,k2⟩:=hold h2 hc'
       rw[k2]at h2
       rw[upd_ne hc']at h4
       rcases hu g h5 with e|e
       · exact absurd (K.inj c' b v' u g h2 hl h4 hmb h6 e) k1
       · have:=(K.blk h2 h4 h6).2
         omega
   · obtain⟨k1,k2⟩:=hold h1 hc
     rw[k2]at h1
     rw[upd_ne hc]at h3
     by_cases hc':c'=i
     · subst hc'
       rw[upd_eq]at h4
       injection h4 with h4
       subst h4
       rcases hu g h6 with e|e
       · exact absurd (K.inj c b v u g h1 hl h3 hmb h5 e) k1
       · have:=(K.blk h1 h3 h5).2
         omega
     · obtain⟨k3,k4⟩:=hold h2 hc'
       rw[k4]at h2
       rw[upd_ne hc']at h4
       exact K.inj c c' v v' g h1 h2 h3 h4 h5 h6
/-- What is only read from then on. -/
theorem Ok.setfz (K:Ok B M h m w) {b:Nat} {x:V} {v:Value} (hd:(h b).own=false) (hm:m b=some v) (hr:Rep w (Av M h m) no v x):Ok B M (upd h b (.fz x)) m w∧∀ g,Av M (upd h b (.fz x)) m g↔Av M h m g:=by
 have hav : ∀ g, Av M (upd h b (.fz x)) m g ↔ Av M h m g := by
  intro g
  constructor
  · rintro (e|⟨c,v,h1,h2,h3⟩)
    · exact .inl e
    · refine .inr ⟨c,v, ?_,h2,h3⟩
      by_cases hc:c=b
      · subst hc;rw[upd_eq]at h1;cases h1
      · rwa [upd_ne hc]at h1
  · rintro (e|⟨c,v,h1,h2,h3⟩)
    · exact .inl e
    · refine .inr ⟨c,v, ?_,h2,h3⟩
      by_cases hc:c=b
      · subst hc;rw[hd]at h1;cases h1
      · rwa [upd_ne hc]
 have hmo:Mo w (Av M h m) m w (Av M (upd h b (.fz x)) m) m:=⟨Nat.le_refl _,fun _ _ _=>rfl,fun g e=> .inl ((hav g).1 e),fun _ _ e=>e⟩
 refine⟨⟨fun c T l e=> ?_,fun c T z l e=> ?_,fun c y e=> ?_,fun c l e=> ?_,fun c c' v v' g h1 h2 h3 h4 h5 h6=> ?_,K.mb,K.bs,K.gl.mo hmo⟩,hav⟩
 · by_cases hc:c=b
   · subst hc;rw[upd_eq]at e;cases e
   · rw[upd_ne hc]at e
     obtain⟨g',cs,h1,h2,h3,h4,h5⟩:=K.bx c T l e
     exact⟨g',cs,h1,h2,h3,h4,fun j x hx=>(h5 j x hx).mo hmo⟩
 · by_cases hc:c=b
   · subst hc;rw[upd_eq]at e;cases e
   · rw[upd_ne hc]at e
     obtain⟨v,xs,h1,h2,h3,h0,h4⟩:=K.rw c T z l e
     exact⟨v,xs,h1,h2,h3,h0,fun j x hx=>(h4 j x hx).mo hmo.no⟩
 · by_cases hc:c=b
   · subst hc
     rw[upd_eq]at e
     injection e with e
     subst e
     exact⟨v,hm,hr.mo hmo.no⟩
   · rw[upd_ne hc]at e
     obtain⟨v,h1,h2⟩:=K.fz c y e
     exact⟨v,h1,h2.mo hmo.no⟩
 · by_cases hc:c=b
   · subst hc;rw[upd_eq]at e;cases e
   · rw[upd_ne hc]at e
     obtain⟨g',h1,h2,h3,h4⟩:=K.mp c l e
     exact⟨g',h1,h2,h3,h4.mo hmo⟩
 · have hl:∀ {c},(upd h b (.fz x) c).own=true→(h c).own=true:=fun{c} hc=>by
     by_cases hcb:c=b
     · subst hcb;rw[upd_eq]at hc;cases hc
     · rwa [upd_ne hcb]at hc
   exact K.inj c c' v v' g (hl h1) (hl h2) h3 h4 h5 h6
end
end Go.Proofs.YtfdfbenejkmnlaaGreatDoor.E
