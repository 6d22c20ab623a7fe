/-
 THE LISTED VARIABLES of package claim and of the hash: what the rows' condition gives.
-/
import Derived.Test.YtfdfbenejkmnlaaGreatDoorLawO
import Derived.OpenShut
import Derived.Carry
import Derived.Test.YtfdfbenejkmnlaaGreatDoorRows
import Derived.LaidMore
import Derived.MakeChecks
import Derived.ChangeArms
namespace Go.Proofs.YtfdfbenejkmnlaaGreatDoor.E.Ca
open Go.RowKit Hs
set_option linter.unusedVariables false
set_option linter.unusedSimpArgs false
section
variable {L S:List CQ} {p:Int×Int} {q r:CQ} {i j k n:Nat} {l m:List Int}
theorem sorted_len (ha:Arc n L):(sorted L).length=L.length:=by
 have n1:(sorted L).Nodup:=(sorted_pw L).imp fun{a b} h e=>by subst e;rw[cmp2_cmp.refl]at h;omega
 have n2:L.Nodup:=List.pairwise_iff_getElem.2 fun i j hi hj hij e=>by
  exact ha.one_lt (List.getElem?_eq_getElem hi) (List.getElem?_eq_getElem hj) hij (congrArg (fun x:CQ=>x.cm.nm) e)
 have h1:=n1.length_le_of_subset (l₂:=L) fun q hq=>sorted_sub hq
 have h2:=n2.length_le_of_subset (l₂:=sorted L) fun q hq=>(sorted_mem ha).2 hq
 omega
theorem cmp2_tick (h:r.tick<q.tick):cmp2 r q<0:=by
 show orI (cI r.tick q.tick) _<0
 have:cI r.tick q.tick= -1:=by unfold cI;rw[if_pos h]
 rw[this]
 unfold orI
 split<;>omega
theorem srt_before (ha:Arc n L) (hq:(sorted L)[i]? =some q) (hr:r∈L) (ht:r.tick<q.tick):∃ j:Nat,j<i∧fidx (fun c:CM=>decide (c.nm=r.cm.nm)) ((sorted L).map CQ.cm)=(j:Int):=by
 obtain⟨j,hj⟩:=List.getElem?_of_mem ((sorted_mem ha).2 hr)
 have pw:=sorted_pw L
 have nm:∀ a∈sorted L,∀ b∈sorted L,a.cm.nm=b.cm.nm→a=b:=fun a h1 b h2 e=>ha.one (sorted_sub h1) (sorted_sub h2) e
 refine⟨j, ?_,find_at hj pw nm⟩
 rcases Nat.lt_trichotomy j i with h|h|h
 · exact h
 · subst h
   rw[hq]at hj
   injection hj with hj
   subst hj
   omega
 · obtain⟨l1,g1⟩:=List.getElem?_eq_some_iff.1 hq
   obtain⟨l2,g2⟩:=List.getElem?_eq_some_iff.1 hj
   have:=List.pairwise_iff_getElem.1 pw i j l1 l2 h
   rw[g1,g2]at this
   have h3:=cmp2_tick ht
   have h4:=cmp2_cmp.neg q r
   omega
theorem arc_ref (ha:Arc n L) (hq:q∈L) (hp:p∈q.refs):∃ r∈L,r.cm.nm=p∧r.tick<q.tick:=by
 obtain⟨i,hi⟩:=List.getElem?_of_mem hq
 obtain⟨r,h1,h2⟩:=ha.rf i q hi p hp
 exact⟨r,List.mem_of_mem_take h1,h2⟩
theorem arc_prev (ha:Arc n L) (hq:q∈L) (h0:0<q.seq):∃ r∈L,r.cm.nm=(q.by_,q.seq - 1)∧r.tick<q.tick:=by
 have h1:=(ha.at_ hq).1
 have hl:=(List.getElem?_eq_some_iff.1 h1).1
 obtain⟨x,hx⟩:∃ x,(chn L q.by_)[q.seq.toNat - 1]? =some x:=⟨_,List.getElem?_eq_getElem (by omega)⟩
 have hm:=chn_mem.1 (List.mem_of_getElem? hx)
 have hs:=ha.seq _ _ _ hx
 refine⟨x,hm.1, ?_,ha.tk _ _ _ _ _ hx h1 (by omega)⟩
 show(x.by_,x.seq)=_
 rw[hm.2,hs]
 congr 1
 omega
noncomputable abbrev fOr:Func:=fnOf PP 3
abbrev GOr (td:List Item) (σ:St):Prop:=Gd PP 3 (bo true) td σ
noncomputable def or0 (m:List Int) (L:List CQ) (i:Nat):St:=at_ fOr [(1,zl m),(5,.lp 0 0),(6,ni i)] [.bx TRA (aR 3 L)]
noncomputable def or1 (L S:List CQ):St:=at_ fOr [(5,.lp 0 0),(11,slQ S)] [.bx TRA (aR 3 L)]
noncomputable def or2 (S:List CQ) (i:Nat):St:=at_ fOr [(11,slQ S),(12,ni i)] []
noncomputable def or3 (S:List CQ) (i k:Nat):St:=at_ fOr [(11,slQ S),(12,ni i),(13,ni k)] []
theorem or_3 (ha:Arc 3 L) (hq:(sorted L)[i]? =some q) (next:GOr (lp fOr 1) (or2 (sorted L) (i+1))):GOr (lp fOr 2) (or3 (sorted L) i 0):=by
 have ll:(rfs q.refs).length=q.refs.length:=rfs_len _
 have hqL:=sorted_sub (List.mem_of_getElem? hq)
 have v:=va_0 (ha.va q hqL)
 have v1:q.refs.length≤16∧0≤q.seq∧q.seq<200:=⟨v.1,v.2.2.2.1,v.2.2.2.2.1⟩
 have sl_:=sorted_le L
 have hil:=(List.getElem?_eq_some_iff.1 hq).1
 have len:=ha.len
 have s1:=dQ_at hq
 refine Gd.loop (or3 (sorted L) i) (fun k=>k≤q.refs.length) (fun k=>q.refs.length - k) ?_ 0 (Nat.zero_le _)
 intro k hk ih
 by_cases h:k<q.refs.length
 · have lt:decide ((k:Int)<((rfs q.refs).length:Int))=true:=decide_eq_true (by omega)
   obtain⟨p,hp⟩:∃ p,q.refs[k]? =some p:=⟨_,List.getElem?_eq_getElem h⟩
   have s2:=rfs_at hp
   obtain⟨r,hr,er,ht⟩:=arc_ref ha hqL (List.mem_of_getElem? hp)
   obtain⟨j,hj,ej⟩:=srt_before ha hq hr ht
   have f:=e_findQ (sorted L) p
   rw[←er,ej,er]at f
   have nx:=ih (k+1) h (by omega)
   have n1:decide ((j:Int)<0)=false:=decide_eq_false (by omega)
   have n2:decide ((j:Int)≥(i:Int))=false:=decide_eq_false (by omega)
   unfold or3 at nx⊢
   unfold slQ at*
   generalize (sorted L).map dQ=R at*
   exact .to mo_ [] [11,12,13] [] 0 [.sel _ _ _ s1,ye lt,.sel _ _ _ s1,.sel _ _ _ s2,cl f,na n1,na n2,inc 120 k (by omega)] nx (by kernel_rfl)
 · have lt:decide ((k:Int)<((rfs q.refs).length:Int))=false:=decide_eq_false (by omega)
   have nx:=next
   by_cases h0:0<q.seq
   · obtain⟨r,hr,er,ht⟩:=arc_prev ha hqL h0
     obtain⟨j,hj,ej⟩:=srt_before ha hq hr ht
     have f:=e_findQ (sorted L) (q.by_,q.seq - 1)
     rw[←er,ej,er]at f
     have gt:decide (q.seq>0)=true:=decide_eq_true h0
     have n1:decide ((j:Int)<0)=false:=decide_eq_false (by omega)
     have n2:decide ((j:Int)≥(i:Int))=false:=decide_eq_false (by omega)
     unfold or2 at nx
     unfold or3
     unfold slQ at*
     generalize (sorted L).map dQ=R at*
     exact .to mo_ [] [11,12] [] 0 [.sel _ _ _ s1,na lt,.sel _ _ _ s1,.sel _ _ _ s1,wq 149 (q.seq - 1) (q.seq - 1) (by omega),cl f,.sel _ _ _ s1,ye gt,na n1,na n2,inc 87 i (by omega)] nx (by kernel_rfl)
   · have f:=e_findQ (sorted L) (q.by_,q.seq - 1)
     have gt:decide (q.seq>0)=false:=decide_eq_false h0
     generalize fidx (fun c:CM=>decide (c.nm=(q.by_,q.seq - 1))) ((sorted L).map CQ.cm)=x at f
     unfold or2 at nx
     unfold or3
     unfold slQ at*
     generalize (sorted L).map dQ=R at*
     exact .to mo_ [] [11,12] [] 0 [.sel _ _ _ s1,na lt,.sel _ _ _ s1,.sel _ _ _ s1,wq 149 (q.seq - 1) (q.seq - 1) (by omega),cl f,.sel _ _ _ s1,na gt,nf,inc 87 i (by omega)] nx (by kernel_rfl)
theorem or_2 (ha:Arc 3 L):GOr (lp fOr 1) (or2 (sorted L) 0):=by
 have ll:((sorted L).map dQ).length=(sorted L).length:=List.length_map ..
 have pw:=sorted_pw L
 have sl_:=sorted_le L
 have len:=ha.len
 refine Gd.loop (or2 (sorted L)) (fun i=>i≤(sorted L).length) (fun i=>(sorted L).length - i) ?_ 0 (Nat.zero_le _)
 intro i hi ih
 by_cases h:i<(sorted L).length
 · have lt:decide ((i:Int)<(((sorted L).map dQ).length:Int))=true:=decide_eq_true (by omega)
   obtain⟨q,hq⟩:∃ q,(sorted L)[i]? =some q:=⟨_,List.getElem?_eq_getElem h⟩
   have hqL:=sorted_sub (List.mem_of_getElem? hq)
   have s1:=dQ_at hq
   have hv:=e_cvalid (k:=100) (c:=q.cm) (ha.fb q hqL) (by omega)
   rw[ha.va q hqL]at hv
   have nx:=or_3 ha hq (ih (i+1) h (by omega))
   by_cases h0:0<i
   · have gt:decide ((i:Int)>0)=true:=decide_eq_true (by omega)
     obtain⟨r,hr⟩:∃ r,(sorted L)[i - 1]? =some r:=⟨_,List.getElem?_eq_getElem (by omega)⟩
     have s2:=dQ_at hr
     have bf:=e_before r.cm q.cm
     have hb:befB r.cm q.cm=true:=by
      obtain⟨l1,g1⟩:=List.getElem?_eq_some_iff.1 hq
      obtain⟨l2,g2⟩:=List.getElem?_eq_some_iff.1 hr
      have:=List.pairwise_iff_getElem.1 pw (i - 1) i l2 l1 (by omega)
      rw[g1,g2]at this
      exact decide_eq_true this
     rw[hb]at bf
     unfold or3 at nx
     unfold or2
     unfold slQ at*
     generalize (sorted L).map dQ=R at*
     exact .to mo_ [] [11,12,13] [] 0 [ye lt,ye gt,wq 93 ((i:Int) - 1) ((i - 1:Nat):Int) (by omega),.sel _ _ _ s2,.sel _ _ _ s1,cl bf,nf,.sel _ _ _ s1,cl hv,nf] nx (by kernel_rfl)
   · have gt:decide ((i:Int)>0)=false:=decide_eq_false (by omega)
     unfold or3 at nx
     unfold or2
     unfold slQ at*
     generalize (sorted L).map dQ=R at*
     exact .to mo_ [] [11,12,13] [] 0 [ye lt,na gt,nf,.sel _ _ _ s1,cl hv,nf] nx (by kernel_rfl)
 · have lt:decide ((i:Int)<(((sorted L).map dQ).length:Int))=false:=decide_eq_false (by omega)
   unfold or2 slQ
   exact fi [na lt,cl e_lives40] (by kernel_rfl) (by kernel_rfl)
theorem or_1 (ha:Arc 3 L):GOr (rg fOr 11) (or1 L (sorted L)):=by
 have e:((((sorted L).map dQ).length:Int) != ((L.map dQ).length:Int))=false:=by
  rw[List.length_map,List.length_map,sorted_len ha]
  simp
 have so:=e_sortR (L:=sorted L) (fun q hq=>ha.sq q (sorted_sub hq)) (by have:=sorted_le L;have:=ha.len;omega)
 rw[sorted_idem ha.sq]at so
 have sm:=e_sameAll (sorted L)
 have nx:=or_2 ha
 unfold or2 at nx
 unfold or1 aR
 unfold slQ at*
 generalize (sorted L).map dQ=R at*
 exact .to mo_ [] [11,12] [] 0 [na e,cl so,cl sm,nf] nx (by kernel_rfl)
theorem or_0 (hm:∀ x∈m,W.Is64 x) (hml:m.length≤maxLen) (ha:Arc 3 L):GOr (lp fOr 0) (or0 m L 0):=by
 have lz:(zs m).length=m.length:=List.length_map ..
 unfold maxLen at hml
 have e22:ni ((zs m).length:Int)=ni (m.length:Int):=by rw[lz]
 refine Gd.loop (fun x:Nat×List CQ=>or0 m x.2 x.1) (fun x=>x.1≤4∧Arc 3 x.2) (fun x=>4 - x.1) ?_ (0,L) ⟨Nat.zero_le _,ha⟩
 rintro ⟨i,L⟩ ⟨hi,ha⟩ ih
 simp only at hi ha ih
 have fin:GOr (rg fOr 11) (or1 L (sorted L)):=or_1 ha
 have fl:=e_filled ha
 have cs:=e_claims ha (M:=L) fun p=>rfl
 by_cases h:i<4∧4*i+3<m.length
 · have lt:decide (((4*i+3:Nat):Int)<(m.length:Int))=true:=decide_eq_true (by omega)
   have lt2:decide ((i:Int)<4)=true:=decide_eq_true (by omega)
   have at_:=e_at hm (4*i) 2
   have ai:=atz_in m (4*i) 2
   have s1:=zs_el (l:=m) (i:=4*i+1) (by omega)
   have s2:=zs_el (l:=m) (i:=4*i+2) (by omega)
   have s3:=zs_el (l:=m) (i:=4*i+3) (by omega)
   have wi:∀ j,j<m.length→W.Is64 (m.getD j 0):=fun j hj=>hm _ (by rw[List.getD_eq_getElem?_getD,List.getElem?_eq_getElem hj];exact List.getElem_mem _)
   obtain⟨q,q1,q2,q3,nxt_⟩:=e_next ha (b:=atz m (4*i) 2) (by omega) (wi (4*i+1) (by omega)) (wi (4*i+2) (by omega)) (wi (4*i+3) (by omega))
   have tk:=e_rtake ha (l:=[q]) (fun c hc=>by rw[List.mem_singleton]at hc;subst hc;exact⟨q1,q2⟩) (by simp)
   rw[(tak_one 3 L q).1]at tk
   have nx:=ih (i+1,tkL 3 L q) ⟨by omega,tkL_arc ha q1 q2⟩ (by simp only;omega)
   unfold PNx at nxt_
   unfold or0 at nx⊢
   unfold tD at tk
   unfold aR slQ at*
   generalize atz m (4*i) 2=b at*
   generalize m.getD (4*i+1) 0=y1 at*
   generalize m.getD (4*i+2) 0=y2 at*
   generalize m.getD (4*i+3) 0=y3 at*
   generalize (takL 3 L [q] 0).2.1=z1 at*
   generalize (takL 3 L [q] 0).2.2=z2 at*
   generalize (tkL 3 L q).map dQ=R2 at*
   exact .to mo_ [] [1,5,6] [0] 1 [wq 19 (4*(i:Int)) ((4*i:Nat):Int) (by omega),wq 20 (((4*i:Nat):Int)+3) ((4*i+3:Nat):Int) (by omega),.eqv 22 _ _ e22,ye lt,ye lt2,
    wq 35 (4*(i:Int)) ((4*i:Nat):Int) (by omega),cl at_,wq 39 (4*(i:Int)) ((4*i:Nat):Int) (by omega),wq 40 (((4*i:Nat):Int)+1) ((4*i+1:Nat):Int) (by omega),.sel _ _ _ s1,
    wq 45 (4*(i:Int)) ((4*i:Nat):Int) (by omega),wq 46 (((4*i:Nat):Int)+2) ((4*i+2:Nat):Int) (by omega),.sel _ _ _ s2,wq 51 (4*(i:Int)) ((4*i:Nat):Int) (by omega),wq 52 (((4*i:Nat):Int)+3) ((4*i+3:Nat):Int) (by omega),.sel _ _ _ s3,cl nxt_,cl tk,inc 29 i (by omega)] nx (by kernel_rfl)
 · unfold or1 aR at fin
   unfold or0 aR
   unfold hA_ hD_ at*
   unfold slQ at*
   generalize (sorted L).map dQ=S at*
   generalize (allP L 3).map dQ=A at*
   generalize mpL L=M at*
   generalize zs (cnts 3 L)=Z at*
   by_cases h2:4*i+3<m.length
   · have lt:decide (((4*i+3:Nat):Int)<(m.length:Int))=true:=decide_eq_true (by omega)
     have lt2:decide ((i:Int)<4)=false:=decide_eq_false (by omega)
     exact .to mo_ [.fz 11] [5,11] [0] 1 [wq 19 (4*(i:Int)) ((4*i:Nat):Int) (by omega),wq 20 (((4*i:Nat):Int)+3) ((4*i+3:Nat):Int) (by omega),.eqv 22 _ _ e22,ye lt,na lt2,.lend _ _ _ _ [] fl,pnA 66 3,nf,.lend _ _ _ _ [1,2,3] cs] fin (by kernel_rfl)
   · have lt:decide (((4*i+3:Nat):Int)<(m.length:Int))=false:=decide_eq_false (by omega)
     exact .to mo_ [.fz 11] [5,11] [0] 1 [wq 19 (4*(i:Int)) ((4*i:Nat):Int) (by omega),wq 20 (((4*i:Nat):Int)+3) ((4*i+3:Nat):Int) (by omega),.eqv 22 _ _ e22,na lt,nf,.lend _ _ _ _ [] fl,pnA 66 3,nf,.lend _ _ _ _ [1,2,3] cs] fin (by kernel_rfl)
/-- **ArchiveOrders.** -/
theorem l_orders (hl:∀ x∈l,W.Is64 x) (hm:∀ x∈m,W.Is64 x):Pure PP 3 [zl l,zl m] (bo true):=by
 refine .len 1 (l:=zs m) (by kernel_rfl) rfl fun hml=> ?_
 rw[show(zs m).length=m.length from List.length_map ..]at hml
 have gr:=e_grown (n:=3) (by omega) hl
 obtain⟨ha,_⟩:=grw_ok (n:=3) (by omega) l (numA l) (by unfold numA;omega)
 have nx:=or_0 hm hml ha
 unfold or0 at nx
 unfold aR slQ at*
 generalize (grw 3 l (numA l)).map dQ=R at*
 exact pf (by kernel_rfl) (.to mo_ [] [1,5,6] [0] 1 [cl gr] nx (by kernel_rfl))
end
end Go.Proofs.YtfdfbenejkmnlaaGreatDoor.E.Ca
namespace Go.Proofs.YtfdfbenejkmnlaaGreatDoor.E
open Go.RowKit
set_option linter.unusedVariables false
/-- The cells of a type. -/
inductive Sh where
 |bb
 |ii (k:IntKind)
 |ss
 |row (e:List Sh)
def shapeF (g:TypeId→Option (List Sh)) (c:TypeId→Nat):Nat→List Field→Option (List Sh)
 |_,[]=>some []
 |o,f::r=>match g f.type,shapeF g c (o+c f.type) r with
   |some l,some m=>match Nat.beq f.offset o&&Nat.beq l.length (c f.type)with
     |true=>some (l++m)
     |false=>none
   |_,_=>none
def shape (P:Program):Nat→TypeId→Option (List Sh)
 |0,_=>none
 | n + 1, t => match P.underlying t with
   |some .bool=>some [.bb]
   |some (.int k)=>some [.ii k]
   |some .string=>some [.ss]
   |some (.slice e)=>match shape P n e with
     |some l=>match Nat.beq l.length (P.cellsOf e)&&Nat.blt 0 l.length with
       |true=>some [.row l]
       |false=>none
     |none=>none
   |some (.struct fs)=>match shapeF (shape P n) P.cellsOf 0 fs.toList with
     |some l=>match Nat.beq l.length (P.cellsOf t)with
       |true=>some l
       |false=>none
     |none=>none
   |_=>none
/-- What stands in such a cell. -/
inductive Fit:Sh→V→Prop
 |b (x:Bool):Fit .bb (.k (.bool x))
 |i (k:IntKind) (n:Int) (h:(Lit.int k n).wf=true):Fit (.ii k) (.k (.int k n))
 |s (x:ByteArray) (h:x.size≤maxLen):Fit .ss (.k (.string x))
 |row (e:List Sh) (l:List (List V)) (h0:l.length≤maxLen) (h1:∀ cs∈l,cs.length=e.length) (h2:∀ cs∈l,∀ (j:Nat) (sh:Sh) (x:V),e[j]? =some sh→cs[j]? =some x→Fit sh x):Fit (.row e) (.sl l)
def FitL (e:List Sh) (xs:List V):Prop:=xs.length=e.length∧∀ (j:Nat) (sh:Sh) (x:V),e[j]? =some sh→xs[j]? =some x→Fit sh x
abbrev FA:Nat→Prop:=fun _=>False
def RepL (w:World) (cs:List Value) (xs:List V):Prop:=∀ (j:Nat) (v:Value) (d:V),cs[j]? =some v→xs[j]? =some d→Rep w FA no v d
theorem FitL.nil:FitL [] []:=⟨rfl,fun j sh x h=>by simp at h⟩
theorem FitL.one {q:Sh} {x:V} (h:Fit q x):FitL [q] [x]:=⟨rfl,fun j sh y h1 h2=>by
 match j with
 |0=>simp at h1 h2;subst h1;subst h2;exact h
 |j+1=>simp at h1⟩
theorem FitL.app {e f:List Sh} {xs ys:List V} (h:FitL e xs) (g:FitL f ys):FitL (e++f) (xs++ys):=by
 refine⟨by rw[List.length_append,List.length_append,h.1,g.1],fun j sh x h1 h2=> ?_⟩
 by_cases hj:j<e.length
 · rw[List.getElem?_append_left hj]at h1
   rw[List.getElem?_append_left (by rw[h.1];exact hj)]at h2
   exact h.2 j sh x h1 h2
 · rw[List.getElem?_append_right (by omega)]at h1
   rw[List.getElem?_append_right (by rw[h.1];omega),h.1]at h2
   exact g.2 _ sh x h1 h2
section
variable {H:Type} {enc:TypeId×Value→H} {P:Program} {w:World}
theorem fields_rep {g : TypeId → Option (List Sh)} {c : TypeId → Nat} {α : Type} {tr : TypeId → List Value → Option α} {cs : List Value} (hg : ∀ t cs' x l, tr t cs' = some x → g t = some l → cs'.length = l.length ∧ ∃ xs, FitL l xs ∧ RepL w cs' xs) :
  ∀ (r:List Field) (o:Nat) (l:List Sh),shapeF g c o r=some l→(∀ f∈r,∃ x,tr f.type ((cs.drop f.offset).take (c f.type))=some x)→∃ xs,FitL l xs∧RepL w (cs.drop o) xs
 |[],o,l,h,_=>by
  simp only[shapeF,Option.some.injEq]at h
  subst h
  exact⟨[],FitL.nil,fun j v d _ h=>by simp at h⟩
 | f :: r, o, l, h, ht => by
  simp only[shapeF]at h
  split at h
  · rename_i l1 l2 e1 e2
    split at h
    · rename_i hc
      simp only[Bool.and_eq_true,Nat.beq_eq]at hc
      injection h with h
      subst h
      obtain⟨x,hx⟩:=ht f (List.mem_cons_self ..)
      obtain⟨h1,xs,h2,h3⟩:=hg _ _ _ _ hx e1
      obtain⟨ys,h4,h5⟩:=fields_rep hg r _ _ e2 fun f hf=>ht f (List.mem_cons_of_mem _ hf)
      refine⟨xs++ys,h2.app h4,fun j v d hv hd=> ?_⟩
      rw[hc.1]at h3
      by_cases hj:j<l1.length
      · rw[List.getElem?_append_left (by rw[h2.1];exact hj)]at hd
        refine h3 j v d ?_ hd
        rw[List.getElem?_take,if_pos (by omega)]
        exact hv
      · rw[List.getElem?_append_right (by rw[h2.1];omega),h2.1]at hd
        refine h5 (j - l1.length) v d ?_ hd
        rw[List.getElem?_drop]at hv⊢
        rw[show o+c f.type+(j - l1.length)=o+j by omega]
        exact hv
    · cases h
  · cases h
theorem trod_rep:∀ (fuel n:Nat) (t:TypeId) (cs:List Value) (x:DataW H×List MemPlace) (l:List Sh),DataW.trod enc P w 0 (fun _=>true) true fuel t cs=some x→shape P n t=some l→cs.length=l.length∧∃ xs,FitL l xs∧RepL w cs xs:=by
 intro fuel
 induction fuel with
 |zero=>intro n t cs x l h;simp[DataW.trod]at h
 | succ fuel ih =>
  intro n t cs x l h hs
  cases n with
  |zero=>cases hs
  | succ n =>
   have one:∀ {q:Sh} {v:Value} {d:V},Fit q d→Rep w FA no v d→[v].length=[q].length∧∃ xs,FitL [q] xs∧RepL w [v] xs:=fun{q v d} h1 h2=>⟨rfl,[d],FitL.one h1,fun j v' d' e1 e2=>by
    match j with
    |0=>simp at e1 e2;subst e1;subst e2;exact h2
    |j+1=>simp at e1⟩
   unfold shape at hs
   split at hs
   · rename_i hu
     injection hs with hs;subst hs
     unfold DataW.trod at h
     rw[hu]at h
     split at h<;>simp_all
     exact one (.b _) (.k _ _)
   · rename_i k hu
     injection hs with hs;subst hs
     unfold DataW.trod at h
     rw[hu]at h
     split at h<;>simp_all
     obtain⟨⟨rfl,h1⟩,_⟩:=h
     exact one (.i _ _ h1) (.k _ _)
   · rename_i hu
     injection hs with hs;subst hs
     unfold DataW.trod at h
     rw[hu]at h
     split at h<;>simp_all
     exact one (.s _ h.1) (.k _ _)
   · rename_i e hu
     split at hs
     · rename_i l' hl'
       split at hs
       · rename_i hc
         simp only[Bool.and_eq_true,Nat.beq_eq,Nat.blt_eq]at hc
         injection hs with hs;subst hs
         rcases DataW.trod_slice hu h with⟨rfl,_⟩|⟨a,len,cap,elems,rest,n',hn',rfl,rfl,hb,hl,hm,hlen,hel,hsp,hns⟩
         · exact one (.row l' [] (by simp) (by simp) (by simp)) (.sl _ none 0 0 0 l'.length [] (fun _ _=>undef) (Nat.zero_le _) (Nat.zero_le _) (by simp) (by simp) (by simp) (by simp))
         · obtain rfl:fuel=n':=by omega
           have he:∀ i,i<len→∃ xs,FitL l' xs∧∀ j d,xs[j]? =some d→∃ v,w.cell? (a.add (i*P.cellsOf e) |>.add j)=some v∧Rep w FA no v d:=by
            intro i hi
            have hq:=hel i hi
            rw[List.getElem?_eq_getElem (by omega)]at hq
            obtain⟨cs',h1,h2⟩:=Option.bind_eq_some_iff.1 hq
            obtain⟨h3,xs,h4,h5⟩:=ih n e cs' _ l' h2 hl'
            obtain⟨_,h6,h7⟩:=World.cells?_some h1
            refine⟨xs,h4,fun j d hd=> ?_⟩
            have hjl:=(List.getElem?_eq_some_iff.1 hd).1
            rw[h4.1]at hjl
            have hv:cs'[j]? =some cs'[j]:=List.getElem?_eq_getElem (by omega)
            exact⟨_,(h7 j (by omega)).trans hv,h5 j _ d hv hd⟩
           by_cases h0:len=0
           · subst h0
             exact one (.row l' [] (by simp) (by simp) (by simp)) (.sl _ (some a) 0 0 cap l'.length [] (fun _ _=>undef) (Nat.zero_le _) hm (by simp) (by simp) (by simp) (by simp))
           · have hch:∃ F:Nat→List V,∀ i,i<len→FitL l' (F i)∧∀ j d,(F i)[j]? =some d→∃ v,w.cell? (a.add (i*P.cellsOf e) |>.add j)=some v∧Rep w FA no v d:=
              ⟨fun i=>if h:i<len then(he i h).choose else[],fun i hi=>by simp only[dif_pos hi];exact(he i hi).choose_spec⟩
             obtain⟨F,hF⟩:=hch
             obtain⟨b,o,spot⟩:=a
             have hspot:spot=none:=by
              obtain⟨h1,h2⟩:=hF 0 (by omega)
              have hlt:0<(F 0).length:=by rw[h1.1];exact hc.2
              obtain⟨v,h3,_⟩:=h2 0 _ (List.getElem?_eq_getElem hlt)
              simpa[Addr.add]using World.cell?_spot h3
             subst hspot
             have hadd:∀ i j:Nat,((⟨b,o,none⟩:Addr).add (i*P.cellsOf e)).add j=⟨b,o+i*l'.length+j,none⟩:=fun i j=>by rw[hc.1,Go.WideShapes.add_plain,Go.WideShapes.add_plain]
             let L:List (List V):=(List.range len).map F
             have hL:L.length=len:=by simp[L]
             have hLi:∀ i cs,L[i]? =some cs→i<len∧cs=F i:=fun i cs hi=>by
              have hlt:=(List.getElem?_eq_some_iff.1 hi).1
              rw[hL]at hlt
              simp only[L,List.getElem?_map,List.getElem?_range hlt,Option.map_some,Option.some.injEq]at hi
              exact⟨hlt,hi.symm⟩
             have hmem:∀ cs∈L,∃ i,i<len∧cs=F i:=fun cs hcs=>by
              obtain⟨i,hi⟩:=List.getElem?_of_mem hcs
              exact⟨i,hLi i cs hi⟩
             have hr:Rep w FA no (.slice (some ⟨b,o,none⟩) L.length cap) (.sl L):=by
              refine .sl _ _ b o cap l'.length L (fun i j=>(w.cell? ⟨b,o+i*l'.length+j,none⟩).getD undef) (by omega) hm (fun _=>⟨rfl,fun e=>e, ?_⟩) (fun cs hcs=> ?_) (fun i j cs x hi hj=> ?_) (fun i j cs x hi hj=> ?_)
              · obtain⟨h1,h2⟩:=hF 0 (by omega)
                have hlt:0<(F 0).length:=by rw[h1.1];exact hc.2
                obtain⟨v,h3,_⟩:=h2 0 _ (List.getElem?_eq_getElem hlt)
                rw[hadd]at h3
                exact cb_of h3
              · obtain⟨i,hi,rfl⟩:=hmem cs hcs
                exact(hF i hi).1.1
              · obtain⟨hi',rfl⟩:=hLi i cs hi
                obtain⟨v,h3,_⟩:=(hF i hi').2 j x hj
                rw[hadd]at h3
                rw[h3];rfl
              · obtain⟨hi',rfl⟩:=hLi i cs hi
                obtain⟨v,h3,h4⟩:=(hF i hi').2 j x hj
                rw[hadd]at h3
                rw[h3]
                exact h4
             rw[hL]at hr
             refine one (.row l' L (by omega) (fun cs hcs=> ?_) (fun cs hcs j sh x h1 h2=> ?_)) hr
             · obtain⟨i,hi,rfl⟩:=hmem cs hcs
               exact(hF i hi).1.1
             · obtain⟨i,hi,rfl⟩:=hmem cs hcs
               exact(hF i hi).1.2 j sh x h1 h2
       · cases hs
     · cases hs
   · rename_i fs hu
     split at hs
     · rename_i l' hl'
       split at hs
       · rename_i hc
         have hc:=Nat.eq_of_beq_eq_true hc
         injection hs with hs;subst hs
         obtain⟨xs,n',hn',_,h1,h2,h3⟩:=DataW.trod_struct hu h
         obtain rfl:fuel=n':=by omega
         obtain⟨ys,h4,h5⟩:=fields_rep (w:=w) (c:=P.cellsOf) (tr:=fun t cs=>DataW.trod enc P w 0 (fun _=>true) true fuel t cs) (cs:=cs) (fun t cs' x l a b=>ih n t cs' x l a b) fs.toList 0 l' hl' (fun f hf=>by
          obtain⟨i,hi⟩:=List.getElem?_of_mem hf
          have hi2:fs[i]? =some f:=by simpa using hi
          have hlt:=(Array.getElem?_eq_some_iff.1 hi2).1
          have h6:=h3 i f hi2
          rw[List.getElem?_eq_getElem (by omega)]at h6
          exact⟨_,h6⟩)
         exact⟨by omega,ys,h4,by simpa using h5⟩
       · cases hs
     · cases hs
   · cases hs
/-- An argument of one cell. -/
theorem arg_1 {n:Nat} {t:TypeId} {v:Value} {d:DataW H} {ps:List MemPlace} {q:Sh} (h:DataW.Trod enc P w 0 (fun _=>true) true t v d ps) (hv:v.cells= #[v]) (hs:shape P n t=some [q]):∃ x,Fit q x∧Rep w FA no v x:=by
 obtain⟨fuel,hf⟩:=h
 rw[hv]at hf
 obtain⟨_,xs,h1,h2⟩:=trod_rep fuel n t _ _ _ hf hs
 match xs,h1 with
 |[x],h1=>exact⟨x,h1.2 0 q x rfl rfl,h2 0 v x rfl rfl⟩
end
/-- A row of ints. -/
theorem Fit.ints {x:V} (h:Fit (.row [.ii .i64]) x):∃ l:List Int,x=zl l∧∀ n∈l,W.Is64 n:=by
 cases h with
 |row e l h0 h1 h2=>
  clear h0
  suffices h:∃ l':List Int,l=zs l'∧∀ n∈l',W.Is64 n by
   obtain⟨l',rfl,h⟩:=h
   exact⟨l',rfl,h⟩
  induction l with
  |nil=>exact⟨[],rfl,by simp⟩
  |cons a r ih=>
   obtain⟨l',rfl,h3⟩:=ih (fun cs h=>h1 cs (List.mem_cons_of_mem _ h)) (fun cs h=>h2 cs (List.mem_cons_of_mem _ h))
   have hl:=h1 a (List.mem_cons_self ..)
   have hf:=h2 a (List.mem_cons_self ..)
   match a,hl with
   | [y], _ =>
    have hy:=hf 0 _ y rfl rfl
    cases hy with
    |i k n hw=>exact⟨n::l',rfl,fun m hm=>by
      rcases List.mem_cons.1 hm with rfl|hm
      · exact is64_of hw
      · exact h3 m hm⟩
end Go.Proofs.YtfdfbenejkmnlaaGreatDoor.E
namespace Go.Proofs.YtfdfbenejkmnlaaGreatDoor.E
open Go.RowKit
set_option linter.unusedVariables false
set_option linter.unusedSimpArgs false
theorem len4 {α:Type}:∀ {l:List α},l.length=4→∃ a b c d,l=[a,b,c,d]
 |[a,b,c,d],_=>⟨a,b,c,d,rfl⟩
 |[],h=>by simp at h
 |[_],h=>by simp at h
 |[_,_],h=>by simp at h
 |[_,_,_],h=>by simp at h
 |_::_::_::_::_::_,h=>by simp at h
section
variable {H:Type} {enc:TypeId×Value→H} {w:World} {base:Nat} {spare:Nat→Bool} {held:Bool} {m:Nat} {cs:List Value} {ps:List MemPlace} {lo hi:Int} {f g:Bool}
theorem gN: Tryz.prog.globalNamed "sherd/claim.needs" =some 0 :=by kernel_rfl
theorem tN:(Tryz.prog.globals[0]?).map (·.type)=some 97 :=by kernel_rfl
abbrev rowD (H:Type) (lo hi:Int) (f g:Bool):DataW H:= .agg [.lit (.int .i64 lo),.lit (.int .i64 hi),.lit (.bool f),.lit (.bool g)]
theorem need_f:(Tryz.prog.fieldsOf 96).size=4:=by kernel_rfl
theorem need_u: Tryz.prog.underlying 96 =some (.struct (Tryz.prog.fieldsOf 96)):=by kernel_rfl
theorem need_c: Tryz.prog.cellsOf 96 =4:=by kernel_rfl
theorem int_c: Tryz.prog.cellsOf 3 =1:=by kernel_rfl
theorem bool_c: Tryz.prog.cellsOf 4 =1:=by kernel_rfl
noncomputable def nf_ (i:Nat):Field:=(Tryz.prog.fieldsOf 96)[i]?.getD default
theorem need_at (i:Nat) (h:i<4):(Tryz.prog.fieldsOf 96)[i]? =some (nf_ i):=by
 unfold nf_
 rw[Array.getElem?_eq_getElem (by rw[need_f];exact h)];rfl
theorem nt0:(nf_ 0).type= 3 ∧(nf_ 0).offset=0:=⟨by kernel_rfl,by kernel_rfl⟩
theorem nt1:(nf_ 1).type= 3 ∧(nf_ 1).offset=1:=⟨by kernel_rfl,by kernel_rfl⟩
theorem nt2:(nf_ 2).type= 4 ∧(nf_ 2).offset=2:=⟨by kernel_rfl,by kernel_rfl⟩
theorem nt3:(nf_ 3).type= 4 ∧(nf_ 3).offset=3:=⟨by kernel_rfl,by kernel_rfl⟩
theorem need_row (h:DataW.trod enc Tryz.prog w base spare held m 96 cs=some (rowD H lo hi f g,ps)):cs=[.int .i64 lo,.int .i64 hi,.bool f,.bool g]:=by
 obtain⟨xs,n,_,hx,hl,hlen,hf⟩:=DataW.trod_struct need_u h
 rw[need_f]at hlen
 rw[need_c]at hl
 obtain⟨y0,y1,y2,y3,rfl⟩:=len4 hlen
 simp only[List.map_cons,List.map_nil,Prod.mk.injEq,DataW.agg.injEq,List.cons.injEq,and_true]at hx
 obtain⟨⟨e0,e1,e2,e3⟩,_⟩:=hx
 obtain⟨a,b,c,d,rfl⟩:=len4 hl
 have g0:=hf 0 _ (need_at 0 (by omega))
 have g1:=hf 1 _ (need_at 1 (by omega))
 have g2:=hf 2 _ (need_at 2 (by omega))
 have g3:=hf 3 _ (need_at 3 (by omega))
 rw[nt0.1,nt0.2,int_c]at g0
 rw[nt1.1,nt1.2,int_c]at g1
 rw[nt2.1,nt2.2,bool_c]at g2
 rw[nt3.1,nt3.2,bool_c]at g3
 obtain⟨v0,c0,x0,_⟩:=DataW.trod_int (k:= .i64) Tryz.underlying3 (show _=some y0 from g0)
 obtain⟨v1,c1,x1,_⟩:=DataW.trod_int (k:= .i64) Tryz.underlying3 (show _=some y1 from g1)
 obtain⟨v2,c2,x2⟩:=DataW.trod_bool Tryz.underlying4 (show _=some y2 from g2)
 obtain⟨v3,c3,x3⟩:=DataW.trod_bool Tryz.underlying4 (show _=some y3 from g3)
 rw[x0]at e0
 rw[x1]at e1
 rw[x2]at e2
 rw[x3]at e3
 simp at c0 c1 c2 c3 e0 e1 e2 e3
 rw[c0,c1,c2,c3,e0,e1,e2,e3]
end
def needsL:List Value:=[.int .i64 0,.int .i64 0,.bool false,.bool true,.int .i64 1,.int .i64 16,.bool true,.bool false,.int .i64 2,.int .i64 16,.bool false,.bool false,.int .i64 1,.int .i64 16,.bool false,.bool false]
theorem arr_u: Tryz.prog.underlying 97 =some (.array 4 96):=by kernel_rfl
theorem arr_c: Tryz.prog.cellsOf 97 =16:=by kernel_rfl
theorem needs_all {w : World} {m : Nat} {cs : List Value} {ps : List MemPlace} (h : DataW.trod (fun _ => ()) Tryz.prog w 0 (fun _ => true) false m 97 cs = some (Rows.laid_sherd_claim_needs, ps)) : cs = needsL := by
 obtain⟨xs,n,_,hx,hl,hlen,hel⟩:=DataW.trod_array arr_u h
 rw[arr_c]at hl
 obtain⟨y0,y1,y2,y3,rfl⟩:=len4 hlen
 unfold Rows.laid_sherd_claim_needs at hx
 simp only[List.map_cons,List.map_nil,Prod.mk.injEq,DataW.agg.injEq,List.cons.injEq,and_true]at hx
 obtain⟨⟨e0,e1,e2,e3⟩,_⟩:=hx
 have g0:=hel 0 (by omega)
 have g1:=hel 1 (by omega)
 have g2:=hel 2 (by omega)
 have g3:=hel 3 (by omega)
 rw[need_c]at g0 g1 g2 g3
 obtain⟨d0,p0⟩:=y0
 obtain⟨d1,p1⟩:=y1
 obtain⟨d2,p2⟩:=y2
 obtain⟨d3,p3⟩:=y3
 simp only at e0 e1 e2 e3
 subst e0;subst e1;subst e2;subst e3
 have r0:=need_row (show _=some (rowD Unit 0 0 false true,p0)from g0)
 have r1:=need_row (show _=some (rowD Unit 1 16 true false,p1)from g1)
 have r2:=need_row (show _=some (rowD Unit 2 16 false false,p2)from g2)
 have r3:=need_row (show _=some (rowD Unit 1 16 false false,p3)from g3)
 have hc : cs = (cs.drop (0 * 4)).take 4 ++ ((cs.drop (1 * 4)).take 4 ++ ((cs.drop (2 * 4)).take 4 ++ (cs.drop (3 * 4)).take 4)) := by
  apply List.ext_getElem?
  intro i
  simp only[List.getElem?_append,List.length_append,List.length_take,List.length_drop,List.getElem?_take,List.getElem?_drop,hl]
  by_cases h1:i<4
  · simp[h1]
  · by_cases h2:i<8
    · simp[h1,show i - 4<4 by omega,show 4+(i - 4)=i by omega]
    · by_cases h3:i<12
      · simp[h1,show¬i - 4<4 by omega,show i - 4 - 4<4 by omega,show 8+(i - 4 - 4)=i by omega]
      · by_cases h4:i<16
        · simp[h1,show¬i - 4<4 by omega,show¬i - 4 - 4<4 by omega,show i - 4 - 4 - 4<4 by omega,show 12+(i - 4 - 4 - 4)=i by omega]
        · rw[List.getElem?_eq_none (by omega)]
          simp[h1,show¬i - 4<4 by omega,show¬i - 4 - 4<4 by omega,show¬i - 4 - 4 - 4<4 by omega]
 rw[hc,r0,r1,r2,r3]
 rfl
section
variable {w:World} {m:Nat} {cs:List Value} {ps:List MemPlace} {l:List Int}
theorem gK1: Tryz.prog.globalNamed "sherd/hash.constants" =some 2 :=by kernel_rfl
theorem tK1:(Tryz.prog.globals[2]?).map (·.type)=some 217 :=by kernel_rfl
theorem aK_u: Tryz.prog.underlying 217 =some (.array 64 161):=by kernel_rfl
theorem aK_c: Tryz.prog.cellsOf 217 =64:=by kernel_rfl
theorem eK_u: Tryz.prog.underlying 161 =some (.int .u32):=by kernel_rfl
theorem eK_c: Tryz.prog.cellsOf 161 =1:=by kernel_rfl
def lit32 (x:Int):DataW Unit:= .lit (.int .u32 x)
theorem laid64 (h:DataW.trod (fun _=>()) Tryz.prog w 0 (fun _=>true) false m 217 cs=some (.agg (l.map lit32),ps)):cs=l.map (Value.int .u32):=by
 obtain⟨xs,n,_,hx,hl,hlen,hel⟩:=DataW.trod_array aK_u h
 rw[aK_c]at hl
 simp only[Prod.mk.injEq,DataW.agg.injEq]at hx
 have hm:=hx.1
 have hll:l.length=64:=by
  have:=congrArg List.length hm
  simpa[hlen]using this
 apply List.ext_getElem?
 intro i
 rcases Nat.lt_or_ge i 64 with hi|hi
 · have h1:=hel i hi
   rw[eK_c,Nat.mul_one,List.getElem?_eq_getElem (by omega)]at h1
   obtain⟨x,c1,c2,_⟩:=DataW.trod_int (k:= .u32) eK_u h1
   have h2:cs[i]? =some (.int .u32 x):=by
    have:=congrArg (fun r:List Value=>r[0]?) c1
    simpa[hl,hi]using this
   have h3:(l.map lit32)[i]? =some (.lit (.int .u32 x)):=by
    rw[hm,List.getElem?_map,List.getElem?_eq_getElem (by omega),c2]
    rfl
   rw[List.getElem?_map,List.getElem?_eq_getElem (by omega)]at h3
   unfold lit32 at h3
   simp only[Option.map_some,Option.some.injEq,DataW.lit.injEq,Lit.int.injEq,true_and]at h3
   rw[h2,List.getElem?_map,List.getElem?_eq_getElem (by omega),h3]
   rfl
 · rw[List.getElem?_eq_none (by omega),List.getElem?_eq_none (by rw[List.length_map];omega)]
end
def laid1:List (String×DataW Unit):=[("sherd/hash.constants",Rows.laid_sherd_hash_constants),("sherd/claim.needs",Rows.laid_sherd_claim_needs)]
theorem lK1:(Rows.laid_sherd_hash_constants:DataW Unit)= .agg (shaK.map lit32):=rfl
theorem gl_eq:gl=[(0,needsL.map V.k),(2,(shaK.map (Value.int .u32)).map V.k)]:=by kernel_rfl
theorem glo_cells {W:World} {g:Nat} {l:List Value} (h0:0<l.length) (hcell:∀ (j:Nat) (v:Value),l[j]? =some v→W.cell? ⟨g,j,none⟩=some v):Rep W (fun _=>False) no (.pointer (some ⟨g,0,none⟩)) (.ip (l.map V.k)):=by
 refine .ip _ _ 0 _ (fun j=>l.getD j undef) (fun h=>h) (cb_of (hcell 0 _ (List.getElem?_eq_getElem h0))) (fun j x hj=> ?_) (fun j x hj=> ?_)
 · simp only[List.getElem?_map,Option.map_eq_some_iff]at hj
   obtain⟨v,hv,rfl⟩:=hj
   rw[Nat.zero_add,hcell j v hv,List.getD_eq_getElem?_getD,hv];rfl
 · simp only[List.getElem?_map,Option.map_eq_some_iff]at hj
   obtain⟨v,hv,rfl⟩:=hj
   rw[List.getD_eq_getElem?_getD,hv]
   exact .k _ _
theorem glo_of {W:World} (h:laidMetH Tryz.prog laid1 W):Glo W (fun _=>False):=by
 rw[MakeChecks.laidMetH_plain _ _ _ (by kernel_rfl)]at h
 obtain⟨ps,⟨g0,t0,cs0,f0,p0,q0,hg0,ht0,hv0,hd0,hr,_⟩,_,_⟩:=h
 obtain⟨g1,t1,cs1,f1,p1,q1,hg1,ht1,hv1,hd1,_⟩:=hr
 obtain rfl:=Option.some.inj (gK1.symm.trans hg0)
 obtain rfl:=Option.some.inj (tK1.symm.trans ht0)
 obtain rfl:=Option.some.inj (gN.symm.trans hg1)
 obtain rfl:=Option.some.inj (tN.symm.trans ht1)
 rw[lK1]at hd0
 have e0:=laid64 hd0
 have e1:=needs_all hd1
 intro p hp
 rw[gl_eq]at hp
 simp only[List.mem_cons,List.not_mem_nil,or_false]at hp
 rcases hp with rfl|rfl
 · exact glo_cells (by simp[needsL]) fun j v hj=>by
    rw[World.var?_cell hg1 hv1 j,←Array.getElem?_toList,e1]
    exact hj
 · exact glo_cells (by simp[shaK]) fun j v hj=>by
    rw[World.var?_cell hg0 hv0 j,←Array.getElem?_toList,e0]
    exact hj
end Go.Proofs.YtfdfbenejkmnlaaGreatDoor.E
