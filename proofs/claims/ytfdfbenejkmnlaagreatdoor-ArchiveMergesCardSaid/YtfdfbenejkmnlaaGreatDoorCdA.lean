/-
 PLAIN: codecs made of codecs: one behind the other, and with a check.
-/
import Derived.Test.YtfdfbenejkmnlaaGreatDoorCaJ
import Derived.Test.YtfdfbenejkmnlaaGreatDoorFlow
namespace Go.Proofs.YtfdfbenejkmnlaaGreatDoor.E.Ca
open Go.RowKit
set_option linter.unusedVariables false
set_option linter.unusedSimpArgs false
/-- A claim with one thing changed. -/
def oddF (c:CM) (h n:Int):CM:=
 if h=0 then{c with by_:=n}else if h=1 then{c with seq:=n}else if h=2 then{c with tick:=n}else if h=3 then{c with kind:=n}else if h=4 then{c with w:=n}
 else if h=5 then{c with refs:=c.refs++[(n,n)]}else if h=6 then{c with refs:=c.refs++[(c.by_,c.seq)]}
 else if h=7 then{c with fit:={c.fit with many:=n}}else if h=8 then{c with fit:={c.fit with a:=n}}else if h=9 then{c with fit:={c.fit with n0:=ofR (Rat.divInt n 7)}}else if h=10 then{c with fit:={c.fit with n2:=ofR (Rat.divInt n 2)}}
 else{c with fit:={c.fit with eb:=n}}
section
variable {c:CM} {how n:Int} {l:List Int} {i:Nat}
theorem is7:W.Is64 7:=⟨by decide,by decide⟩
theorem is2:W.Is64 2:=⟨by decide,by decide⟩
theorem e_odd (hr:c.refs.length≤100) (hw:W.Is64 how) (hn:W.Is64 n):Pure PP 30 [.ag (dC c),ni how,ni n] (.ag (dC (oddF c (rnd how 11) n))):=by
 have ha:=e_around hw 11
 have hc:=rnd_in how 11
 generalize rnd how 11=h at ha hc
 have hl:=rfs_len c.refs
 have hh:h=0∨h=1∨h=2∨h=3∨h=4∨h=5∨h=6∨h=7∨h=8∨h=9∨h=10∨h=11:=by omega
 by_cases h0:c.refs=[]
 · obtain⟨b,s,t,kd,rf,ft,w⟩:=c
   simp only at h0 hr hl
   subst h0
   rcases hh with rfl|rfl|rfl|rfl|rfl|rfl|rfl|rfl|rfl|rfl|rfl|rfl
   · exact tr [.ape [] rfl,cl ha,yt] (by kernel_rfl)
   · exact tr [.ape [] rfl,cl ha,nf,yt] (by kernel_rfl)
   · exact tr [.ape [] rfl,cl ha,nf,nf,yt] (by kernel_rfl)
   · exact tr [.ape [] rfl,cl ha,nf,nf,nf,yt] (by kernel_rfl)
   · exact tr [.ape [] rfl,cl ha,nf,nf,nf,nf,yt] (by kernel_rfl)
   · exact tr [.ape [] rfl,cl ha,nf,nf,nf,nf,nf,yt,.app (rfs []) [nm (n,n)] (rfs ([]++[(n,n)])) 2000 (by rw[←rfs_app];rfl) (by simp) (by rw[rfs_len];simp;try omega)] (by kernel_rfl)
   · exact tr [.ape [] rfl,cl ha,nf,nf,nf,nf,nf,nf,yt,.app (rfs []) [nm (b,s)] (rfs ([]++[(b,s)])) 2000 (by rw[←rfs_app];rfl) (by simp) (by rw[rfs_len];simp;try omega)] (by kernel_rfl)
   · exact tr [.ape [] rfl,cl ha,nf,nf,nf,nf,nf,nf,nf,yt] (by kernel_rfl)
   · exact tr [.ape [] rfl,cl ha,nf,nf,nf,nf,nf,nf,nf,nf,yt] (by kernel_rfl)
   · exact tr [.ape [] rfl,cl ha,nf,nf,nf,nf,nf,nf,nf,nf,nf,yt,cl (e_of4 hn is7)] (by kernel_rfl)
   · exact tr [.ape [] rfl,cl ha,nf,nf,nf,nf,nf,nf,nf,nf,nf,nf,yt,cl (e_of4 hn is2)] (by kernel_rfl)
   · exact tr [.ape [] rfl,cl ha,nf,nf,nf,nf,nf,nf,nf,nf,nf,nf,nf] (by kernel_rfl)
 · have hp:0<c.refs.length:=List.length_pos_iff.2 h0
   rcases hh with rfl|rfl|rfl|rfl|rfl|rfl|rfl|rfl|rfl|rfl|rfl|rfl
   · exact tr [.aps [] (rfs c.refs) (rfs c.refs) 2000 2 rfl (by rw[hl];exact hp) (by rw[hl];omega) (nm_ok _),cl ha,yt] (by kernel_rfl)
   · exact tr [.aps [] (rfs c.refs) (rfs c.refs) 2000 2 rfl (by rw[hl];exact hp) (by rw[hl];omega) (nm_ok _),cl ha,nf,yt] (by kernel_rfl)
   · exact tr [.aps [] (rfs c.refs) (rfs c.refs) 2000 2 rfl (by rw[hl];exact hp) (by rw[hl];omega) (nm_ok _),cl ha,nf,nf,yt] (by kernel_rfl)
   · exact tr [.aps [] (rfs c.refs) (rfs c.refs) 2000 2 rfl (by rw[hl];exact hp) (by rw[hl];omega) (nm_ok _),cl ha,nf,nf,nf,yt] (by kernel_rfl)
   · exact tr [.aps [] (rfs c.refs) (rfs c.refs) 2000 2 rfl (by rw[hl];exact hp) (by rw[hl];omega) (nm_ok _),cl ha,nf,nf,nf,nf,yt] (by kernel_rfl)
   · exact tr [.aps [] (rfs c.refs) (rfs c.refs) 2000 2 rfl (by rw[hl];exact hp) (by rw[hl];omega) (nm_ok _),cl ha,nf,nf,nf,nf,nf,yt,.app (rfs c.refs) [nm (n,n)] (rfs (c.refs++[(n,n)])) 2000 (by rw[←rfs_app];rfl) (by simp) (by rw[rfs_len];simp;try omega)] (by kernel_rfl)
   · exact tr [.aps [] (rfs c.refs) (rfs c.refs) 2000 2 rfl (by rw[hl];exact hp) (by rw[hl];omega) (nm_ok _),cl ha,nf,nf,nf,nf,nf,nf,yt,.app (rfs c.refs) [nm (c.by_,c.seq)] (rfs (c.refs++[(c.by_,c.seq)])) 2000 (by rw[←rfs_app];rfl) (by simp) (by rw[rfs_len];simp;try omega)] (by kernel_rfl)
   · exact tr [.aps [] (rfs c.refs) (rfs c.refs) 2000 2 rfl (by rw[hl];exact hp) (by rw[hl];omega) (nm_ok _),cl ha,nf,nf,nf,nf,nf,nf,nf,yt] (by kernel_rfl)
   · exact tr [.aps [] (rfs c.refs) (rfs c.refs) 2000 2 rfl (by rw[hl];exact hp) (by rw[hl];omega) (nm_ok _),cl ha,nf,nf,nf,nf,nf,nf,nf,nf,yt] (by kernel_rfl)
   · exact tr [.aps [] (rfs c.refs) (rfs c.refs) 2000 2 rfl (by rw[hl];exact hp) (by rw[hl];omega) (nm_ok _),cl ha,nf,nf,nf,nf,nf,nf,nf,nf,nf,yt,cl (e_of4 hn is7)] (by kernel_rfl)
   · exact tr [.aps [] (rfs c.refs) (rfs c.refs) 2000 2 rfl (by rw[hl];exact hp) (by rw[hl];omega) (nm_ok _),cl ha,nf,nf,nf,nf,nf,nf,nf,nf,nf,nf,yt,cl (e_of4 hn is2)] (by kernel_rfl)
   · exact tr [.aps [] (rfs c.refs) (rfs c.refs) 2000 2 rfl (by rw[hl];exact hp) (by rw[hl];omega) (nm_ok _),cl ha,nf,nf,nf,nf,nf,nf,nf,nf,nf,nf,nf] (by kernel_rfl)
def someC (l:List Int) (i:Nat) (c:CM):CM:=
 if atz l (5*i+4) 1=0 then{c with seq:=atz l (5*i+2) 2,tick:=atz l (5*i+3) 3,kind:=3,refs:=[(atz l (5*i+3) 2,atz l (5*i+1) 2),(atz l (5*i) 1,(atz l (5*i+4) 3).tdiv 2)]}
 else{c with seq:=atz l (5*i+2) 2,tick:=atz l (5*i+3) 3}
def someF (l:List Int):Nat→List CM
 |0=>[]
 |i+1=>someF l i++[someC l i ((goodL l).getD i c0)]
def someL (l:List Int):List CM:=someF l (goodL l).length
theorem goodL_len (l:List Int):(goodL l).length≤10:=by
 unfold goodL
 rw[good_len]
 exact Nat.min_le_left _ _
end
end Go.Proofs.YtfdfbenejkmnlaaGreatDoor.E.Ca


namespace Go.Proofs.YtfdfbenejkmnlaaGreatDoor.E.Ca
open Go.RowKit
set_option linter.unusedVariables false
set_option linter.unusedSimpArgs false
section
variable {L:List CM} {i j k n:Nat} {bs:List Bool}
theorem e_find1 (c:CM) (p:Int×Int):Pure PP 50 [.ag (dC c),.ip (nm p)] (bo (decide (c.nm=p))):=tr [cl (e_name c),fEq c.nm p] (by kernel_rfl)
theorem e_find (L:List CM) (p:Int×Int):Pure PP 15 [.sl (L.map dC),.ag (nm p)] (ni (fidx (fun c=>decide (c.nm=p)) L)):=tr [cl (e_idxC (G:= 50) (c0:=nm p) (bad:=fun c=>decide (c.nm=p)) L fun a _=>e_find1 a p)] (by kernel_rfl)
end
end Go.Proofs.YtfdfbenejkmnlaaGreatDoor.E.Ca

namespace Go.Proofs.YtfdfbenejkmnlaaGreatDoor.E.Ca
open Go.RowKit
set_option linter.unusedVariables false
set_option linter.unusedSimpArgs false
def k0:CM:=⟨0,0,1,0,[],zF,5⟩
noncomputable def k1:CM:=⟨1,0,2,1,[(0,0)],(fitQ [] 0).fm,0⟩
def k2:CM:=⟨2,0,3,3,[(0,0)],zF,0⟩
section
variable {l:List Int} {i:Nat}
theorem one_turn (r:Int):oneB (turnQ r).1 (turnQ r).2=true:=by
 unfold turnQ oneB
 split
 · decide+kernel
 · split
   · decide+kernel
   · split
     · decide+kernel
     · split
       · decide+kernel
       · split<;>decide+kernel
theorem cmp_add (r:Rat) {k:Int} (hk:0≤k):decide (cmpQ r (r+Rat.divInt k 2)≤0)=true:=by
 have h1:(0:Rat)≤Rat.divInt k 2:=Rat.divInt_nonneg hk (by omega)
 have h:r≤r+Rat.divInt k 2:=by grind
 refine decide_eq_true ?_
 unfold cmpQ
 split
 · decide
 · rw[if_neg (by grind)];decide
theorem cmp_self (r:Rat):decide (cmpQ r r≤0)=true:=by
 refine decide_eq_true ?_
 unfold cmpQ
 rw[if_neg (by grind),if_neg (by grind)];decide
theorem edge_in {x:Int} (h:0≤x∧x<12):edgeB x=true:=by unfold edgeB;simp;omega
theorem fit_ok (l:List Int) (i:Nat):fitsB (fitQ l i).fm true=true:=by
 have h0:=atz_in l i 2
 have h1:=atz_in l (i+1) 1
 have h2:=atz_in l (i+2) 11
 have h3:=atz_in l (i+3) 11
 have h4:=atz_in l (i+4) 2
 have h8:=atz_in l (i+8) 2
 have hB:(nu (fitQ l i).fm).any (badR true)=false:=by
  rw[List.any_eq_false]
  intro n hn
  have:okB n=true:=by
   simp only[nu,FQ.fm,List.mem_cons,List.not_mem_nil,or_false]at hn
   rcases hn with rfl|rfl|rfl|rfl|rfl|rfl<;>exact okB_ofR _
  simp[badR,this]
 unfold fitsB
 rw[hB]
 show needB _=true
 simp only[needB,FQ.fm,q_ofR,fitQ,one_turn,cmp_self]
 rw[cmp_add _ h8.1,edge_in (by omega),edge_in (by omega),edge_in (by omega)]
 simp
 refine⟨⟨⟨h0.1,decide_eq_true (by omega)⟩,decide_eq_true (by omega)⟩,by omega⟩
theorem zF_ok:fitsB zF false=true:=by
 have hB:(nu zF).any (badR false)=false:=by
  rw[List.any_eq_false]
  intro n hn
  have e:n=ofR 0:=by
   simp only[nu,zF,List.mem_cons,List.not_mem_nil,or_false]at hn
   rw[ofR_0]
   rcases hn with h|h|h|h|h|h<;>exact h
  subst e
  unfold badR
  rw[okB_ofR,q_ofR]
  decide
 unfold fitsB
 rw[hB]
 decide
theorem bq_bn {k:Nat} {r:Rat} (h:Bq k r):Bn k (ofR r):=by
 refine⟨fun _=> ?_,fun _=> ?_⟩
 · show I.Bd k (I.val (digs r.num.natAbs))
   rw[(digs_ok _).2]
   have:=h.1
   unfold I.Bd at*
   simpa using this
 · show I.Bd k (I.val (digs (dq r).natAbs))
   rw[(digs_ok _).2]
   have:=bd_dq h
   unfold I.Bd at*
   simpa using this
theorem turn_bits (r:Int):Bq 7 (turnQ r).1∧Bq 7 (turnQ r).2:=by
 have h:∀ x y:Int,-100≤x∧x≤100→1≤y∧y≤100→Bq 7 (Rat.divInt x y):=fun x y hx hy=>Bq.divInt (bd7 hx.1 hx.2) (bd7 (by omega) hy.2) (by omega)
 have h0:Bq 7 0:=by rw[show(0:Rat)=Rat.divInt 0 1 from rfl];exact h 0 1 (by omega) (by omega)
 unfold turnQ
 split
 · exact⟨h 1 1 (by omega) (by omega),h0⟩
 · split
   · exact⟨h0,h 1 1 (by omega) (by omega)⟩
   · split
     · exact⟨h (-1) 1 (by omega) (by omega),h0⟩
     · split
       · exact⟨h0,h (-1) 1 (by omega) (by omega)⟩
       · split
         · exact⟨h 3 5 (by omega) (by omega),h 4 5 (by omega) (by omega)⟩
         · exact⟨h (-5) 13 (by omega) (by omega),h 12 13 (by omega) (by omega)⟩
theorem fit_bits (l:List Int) (i:Nat):FBits 100 (fitQ l i).fm:=by
 have h8:=atz_in l (i+8) 2
 have t:=turn_bits (rnd (atz l (i+5) 5) 5)
 have s2:=small_bits (atz l (i+6) 999)
 have s3:=small_bits (atz l (i+7) 999)
 have s4:=s2.add (Bq.divInt (bd7 (x:=atz l (i+8) 2) (by omega) (by omega)) (bd7 (x:=2) (by omega) (by omega)) (by omega))
 intro n hn
 simp only[nu,FQ.fm,fitQ,List.mem_cons,List.not_mem_nil,or_false]at hn
 rcases hn with rfl|rfl|rfl|rfl|rfl|rfl
 · exact bq_bn (t.1.mono (by omega))
 · exact bq_bn (t.2.mono (by omega))
 · exact bq_bn (s2.mono (by omega))
 · exact bq_bn (s3.mono (by omega))
 · exact bq_bn (s4.mono (by omega))
 · exact bq_bn (s3.mono (by omega))
theorem zF_bits:FBits 100 zF:=by
 intro n hn
 have e:n=ofR 0:=by
  simp only[nu,zF,List.mem_cons,List.not_mem_nil,or_false]at hn
  rw[ofR_0]
  rcases hn with h|h|h|h|h|h<;>exact h
 subst e
 exact bq_bn ((turn_bits 0).2.mono (by omega))
end
end Go.Proofs.YtfdfbenejkmnlaaGreatDoor.E.Ca
namespace Go.Proofs.YtfdfbenejkmnlaaGreatDoor.W
open Go.RowKit
/-- A length at the beginning, of elements of at least so many bytes. -/
def cnt (l:List UInt8) (size:Nat):Int×Nat×Int:=
 if(dec l).2.2≠0 then dec l
 else if(dec l).1<0 then((dec l).1,(dec l).2.1,2)
 else if((l.length - (dec l).2.1) / size:Nat)<(dec l).1 then((dec l).1,(dec l).2.1,3)
 else dec l
theorem dec_at_le (l:List UInt8):(dec l).2.1≤l.length:=by
 rcases hd:dec l with⟨n,u,e⟩
 rcases dec_err hd with rfl|⟨_,rfl,_⟩
 ·exact(dec_ok hd).2.1
 ·simp
theorem dec_at_le9 (l:List UInt8):(dec l).2.1≤9:=by
 rcases hd:dec l with⟨n,u,e⟩
 rcases dec_err hd with rfl|⟨_,rfl,_⟩
 ·have:=(dec_ok hd).2.2.2
  have:=(enc_le n).2
  simp;omega
 ·simp
theorem dec_range (l:List UInt8):Is64 (dec l).1:=by
 rcases hd:dec l with⟨n,u,e⟩
 rcases dec_err hd with rfl|⟨rfl,_,_⟩
 ·exact(dec_ok hd).1
 ·unfold Is64;simp
/-- A count that went well. -/
theorem cnt_ok {l:List UInt8} {size:Nat} (h:(cnt l size).2.2=0):cnt l size=dec l∧(dec l).2.2=0∧0≤(dec l).1∧(dec l).1≤((l.length - (dec l).2.1) / size:Nat):=by
 unfold cnt at h⊢
 by_cases h1:(dec l).2.2≠0
 ·rw[if_pos h1]at h;exact absurd h h1
 rw[if_neg h1]at h⊢
 by_cases h2:(dec l).1<0
 ·rw[if_pos h2]at h;simp at h
 rw[if_neg h2]at h⊢
 by_cases h3:((l.length - (dec l).2.1) / size:Nat)<(dec l).1
 ·rw[if_pos h3]at h;simp at h
 rw[if_neg h3]at h⊢
 exact⟨rfl,by simpa using h1,by omega,by omega⟩
/-- Decoding so many elements, one after the other. -/
def seqD {α:Type} (d:List UInt8→α×Nat×Int) (b:List UInt8):Nat→Nat→List α→List α×Nat×Int
 |0,at_,acc=>(acc,at_,0)
 |k+1,at_,acc=>if(d (b.drop at_)).2.2≠0 then([],0,(d (b.drop at_)).2.2)else seqD d b k (at_+(d (b.drop at_)).2.1) (acc++[(d (b.drop at_)).1])
def decL {α:Type} (d:List UInt8→α×Nat×Int) (l:List UInt8):List α×Nat×Int:=
 if(cnt l 1).2.2≠0 then([],0,(cnt l 1).2.2)else seqD d l (cnt l 1).1.toNat (cnt l 1).2.1 []
def decI (l:List UInt8):List Int×Nat×Int:=decL dec l
theorem cnt_bound {l:List UInt8} {size:Nat} (h:(cnt l size).2.2=0):∃ n:Nat,(cnt l size).1=(n:Int)∧n*size+(cnt l size).2.1≤l.length∧(cnt l size).2.1≤9:=by
 obtain⟨h1,h2,h3,h4⟩:=cnt_ok h
 rw[h1]
 have h5:=dec_at_le l
 have h9:=dec_at_le9 l
 refine⟨(dec l).1.toNat,by omega, ?_,h9⟩
 have h6:(dec l).1.toNat≤(l.length - (dec l).2.1) / size:=by omega
 have h7:=Nat.mul_le_mul_right size h6
 have h8:=Nat.div_mul_le_self (l.length - (dec l).2.1) size
 omega
end Go.Proofs.YtfdfbenejkmnlaaGreatDoor.W
namespace Go.Proofs.YtfdfbenejkmnlaaGreatDoor.W
open Go.RowKit
/-- A code: decoding an encoding, whatever follows; what is decoded is an encoding; one cut short yields 3. -/
structure Codec {α:Type} (e:α→List UInt8) (d:List UInt8→α×Nat×Int) (V:α→Prop):Prop where
 back:∀ x,V x→∀ t,d (e x++t)=(x,(e x).length,0)
 canon:∀ b,(d b).2.2=0→V (d b).1∧(d b).2.1≤b.length∧b.take (d b).2.1=e (d b).1
 short:∀ x,V x→∀ i,i<(e x).length→(d ((e x).take i)).2.2=3
 pos:∀ x,V x→0<(e x).length
theorem codec_int:Codec enc dec Is64 where
 back:=fun x h t=>dec_enc h t
 canon:=fun b h=>by
  rcases hd:dec b with⟨n,u,e⟩
  rw[hd]at h
  simp only at h
  subst h
  obtain⟨h1,h2,h3,_⟩:=dec_ok hd
  exact⟨h1,h2,h3⟩
 short:=fun x h i hi=>by rw[dec_short h i hi]
 pos:=fun x _=>by have:=(enc_le x).1;omega
theorem nat64 {n:Nat} (h:n≤4611686018427387904):Is64 (n:Int):=by unfold Is64;omega
theorem cnt_enc {n size:Nat} (hn:Is64 (n:Int)) (hs:1≤size) (rest:List UInt8) (hr:n*size≤rest.length):cnt (enc n++rest) size=((n:Int),(enc n).length,0):=by
 have h1:=dec_enc hn rest
 unfold cnt
 rw[h1]
 simp only[ne_eq,not_true,if_false,List.length_append,Nat.add_sub_cancel_left]
 rw[if_neg (by omega),if_neg]
 have:n≤rest.length / size:=(Nat.le_div_iff_mul_le (by omega)).2 hr
 omega
theorem cnt_short {n size:Nat} (hn:Is64 (n:Int)) (rest:List UInt8) (i:Nat) (hi:i<(enc n).length):(cnt ((enc n++rest).take i) size).2.2=3:=by
 have h1:=dec_short hn i hi
 rw[List.take_append_of_le_length (by omega)]
 unfold cnt
 rw[h1]
 simp
theorem cnt_less {n size:Nat} (hn:Is64 (n:Int)) (hs:1≤size) (rest:List UInt8) (hr:rest.length<n*size):(cnt (enc n++rest) size).2.2=3:=by
 have h1:=dec_enc hn rest
 unfold cnt
 rw[h1]
 simp only[ne_eq,not_true,if_false,List.length_append,Nat.add_sub_cancel_left]
 rw[if_neg (by omega),if_pos]
 have:rest.length / size<n:=(Nat.div_lt_iff_lt_mul (by omega)).2 hr
 omega
section
variable {α:Type} {e:α→List UInt8} {d:List UInt8→α×Nat×Int} {V:α→Prop}
theorem seqD_back (h:Codec e d V):∀ (l:List α) (pre t:List UInt8) (acc:List α),(∀ x∈l,V x)→
  seqD d (pre++l.flatMap e++t) l.length pre.length acc=(acc++l,pre.length+(l.flatMap e).length,0)
 |[],pre,t,acc,_=>by simp[seqD]
 |x::r,pre,t,acc,hv=>by
  have hx:=h.back x (hv x (by simp)) (r.flatMap e++t)
  have hdrop:(pre++(x::r).flatMap e++t).drop pre.length=e x++(r.flatMap e++t):=by
   rw[List.append_assoc,List.drop_left]
   simp
  simp only[List.length_cons,seqD]
  rw[hdrop,hx]
  simp only[ne_eq,not_true,if_false]
  have ih:=seqD_back h r (pre++e x) t (acc++[x]) (fun y hy=>hv y (by simp[hy]))
  have e1:pre++(x::r).flatMap e++t=pre++e x++r.flatMap e++t:=by simp
  rw[e1,show pre.length+(e x).length=(pre++e x).length from by simp,ih]
  simp[Nat.add_assoc]
theorem flat_len (h:Codec e d V):∀ (l:List α),(∀ x∈l,V x)→l.length≤(l.flatMap e).length
 |[],_=>by simp
 |x::r,hv=>by
  have:=flat_len h r (fun y hy=>hv y (by simp[hy]))
  have:=h.pos x (hv x (by simp))
  simp only[List.flatMap_cons,List.length_cons,List.length_append]
  omega
theorem decL_back (h:Codec e d V) (l:List α) (t:List UInt8) (hv:∀ x∈l,V x) (hl:Is64 (l.length:Int)):
  decL d (enc l.length++l.flatMap e++t)=(l,(enc l.length++l.flatMap e).length,0):=by
 have h1:=flat_len h l hv
 have hc:=cnt_enc (size:=1) hl (Nat.le_refl _) (l.flatMap e++t) (by rw[List.length_append];omega)
 rw[←List.append_assoc]at hc
 unfold decL
 rw[hc]
 simp only[ne_eq,not_true,if_false,Int.toNat_natCast]
 rw[seqD_back h l (enc l.length) t [] hv]
 simp
theorem seqD_canon (h:Codec e d V) (b:List UInt8):∀ (k p:Nat) (acc:List α),p≤b.length→(seqD d b k p acc).2.2=0→
  ∃ l',(seqD d b k p acc).1=acc++l'∧l'.length=k∧(∀ x∈l',V x)∧(seqD d b k p acc).2.1=p+(l'.flatMap e).length∧(seqD d b k p acc).2.1≤b.length∧(b.drop p).take (l'.flatMap e).length=l'.flatMap e
 |0,p,acc,hp,_=>⟨[],by simp[seqD],rfl,by simp,by simp[seqD],by simpa[seqD]using hp,by simp⟩
 |k+1,p,acc,hp,he=>by
  simp only[seqD]at he⊢
  by_cases h0:(d (b.drop p)).2.2=0
  ·rw[if_neg (by simp[h0])]at he⊢
   obtain⟨c1,c2,c3⟩:=h.canon _ h0
   rw[List.length_drop]at c2
   obtain⟨l',i1,i2,i3,i4,i5,i6⟩:=seqD_canon h b k (p+(d (b.drop p)).2.1) (acc++[(d (b.drop p)).1]) (by omega) he
   have hlen:(e (d (b.drop p)).1).length=(d (b.drop p)).2.1:=by rw[←c3,List.length_take,List.length_drop];omega
   refine⟨(d (b.drop p)).1::l',by rw[i1];simp,by simp[i2], ?_, ?_,i5, ?_⟩
   ·intro x hx
    rcases List.mem_cons.1 hx with rfl|hx
    ·exact c1
    ·exact i3 x hx
   ·rw[i4,List.flatMap_cons,List.length_append,hlen]
    omega
   ·rw[List.flatMap_cons,List.length_append,List.take_add,hlen,c3,List.drop_drop,i6]
  ·rw[if_pos h0]at he
   exact absurd he h0
theorem decL_canon (h:Codec e d V) (b:List UInt8) (he:(decL d b).2.2=0):
  (∀ x∈(decL d b).1,V x)∧(decL d b).2.1≤b.length∧b.take (decL d b).2.1=enc (decL d b).1.length++(decL d b).1.flatMap e:=by
 unfold decL at he⊢
 by_cases hc:(cnt b 1).2.2=0
 ·rw[if_neg (by simp[hc])]at he⊢
  obtain⟨c1,c2,c3,_⟩:=cnt_ok hc
  obtain⟨n,hn,hn2,_⟩:=cnt_bound hc
  rw[hn,Int.toNat_natCast]at he⊢
  obtain⟨l',i1,i2,i3,i4,i5,i6⟩:=seqD_canon h b n (cnt b 1).2.1 [] (by omega) he
  rw[i1,List.nil_append,i4,List.take_add,i6]
  refine⟨i3,by rw[←i4];exact i5, ?_⟩
  rcases hd:dec b with⟨m,u,e'⟩
  rw[hd]at c2
  simp only at c2
  subst c2
  obtain⟨_,_,h3,_⟩:=dec_ok hd
  rw[c1,hd]at hn
  simp only at hn
  rw[c1,hd,i2]
  simp only
  rw[h3,hn]
 ·rw[if_pos hc]at he
  exact absurd he hc
theorem seqD_short (h:Codec e d V):∀ (l:List α) (pre:List UInt8) (j:Nat) (acc:List α),(∀ x∈l,V x)→j<(l.flatMap e).length→
  (seqD d (pre++(l.flatMap e).take j) l.length pre.length acc).2.2=3
 |[],pre,j,acc,_,hj=>by simp at hj
 |x::r,pre,j,acc,hv,hj=>by
  have hx:=hv x (by simp)
  simp only[List.length_cons,seqD]
  rw[List.drop_left]
  rcases Nat.lt_or_ge j (e x).length with h1|h1
  ·have e1:((x::r).flatMap e).take j=(e x).take j:=by rw[List.flatMap_cons,List.take_append_of_le_length (by omega)]
   rw[e1]
   have:=h.short x hx j h1
   rw[this]
   simp
  ·have e1:((x::r).flatMap e).take j=e x++(r.flatMap e).take (j - (e x).length):=by
    rw[List.flatMap_cons,List.take_append,List.take_of_length_le h1]
   rw[e1,h.back x hx]
   simp only[ne_eq,not_true,if_false]
   simp only[List.flatMap_cons,List.length_append]at hj
   have ih:=seqD_short h r (pre++e x) (j - (e x).length) (acc++[x]) (fun y hy=>hv y (by simp[hy])) (by omega)
   rw[←List.append_assoc,show pre.length+(e x).length=(pre++e x).length from by simp]
   exact ih
theorem decL_short (h:Codec e d V) (l:List α) (hv:∀ x∈l,V x) (hl:Is64 (l.length:Int)) (i:Nat) (hi:i<(enc l.length++l.flatMap e).length):
  (decL d ((enc l.length++l.flatMap e).take i)).2.2=3:=by
 unfold decL
 rcases Nat.lt_or_ge i (enc l.length).length with h1|h1
 ·have:=cnt_short (size:=1) hl (l.flatMap e) i h1
  rw[if_pos (by rw[this];simp),this]
 ·rw[List.length_append]at hi
  have e1:(enc l.length++l.flatMap e).take i=enc l.length++(l.flatMap e).take (i - (enc l.length).length):=by
   rw[List.take_append,List.take_of_length_le h1]
  rw[e1]
  have hlen:((l.flatMap e).take (i - (enc l.length).length)).length=i - (enc l.length).length:=by rw[List.length_take];omega
  rcases Nat.lt_or_ge (i - (enc l.length).length) l.length with h2|h2
  ·have:=cnt_less (size:=1) hl (Nat.le_refl _) ((l.flatMap e).take (i - (enc l.length).length)) (by omega)
   rw[if_pos (by rw[this];simp),this]
  ·have hc:=cnt_enc (size:=1) hl (Nat.le_refl _) ((l.flatMap e).take (i - (enc l.length).length)) (by omega)
   rw[hc]
   simp only[ne_eq,not_true,if_false,Int.toNat_natCast]
   exact seqD_short h l (enc l.length) _ [] hv (by omega)
end
/-! ### strings -/
/-! ### digests: bytes, 16 a digest -/
/-! ### the order of encodings -/
end Go.Proofs.YtfdfbenejkmnlaaGreatDoor.W
namespace Go.Proofs.YtfdfbenejkmnlaaGreatDoor.W
open Go.RowKit
theorem decL_len {α:Type} {e:α→List UInt8} {d:List UInt8→α×Nat×Int} {V:α→Prop} (h:Codec e d V) (b:List UInt8) (he:(decL d b).2.2=0):Is64 ((decL d b).1.length:Int):=by
 unfold decL at he⊢
 by_cases hc:(cnt b 1).2.2=0
 ·rw[if_neg (by simp[hc])]at he⊢
  obtain⟨c1,c2,c3,_⟩:=cnt_ok hc
  obtain⟨n,hn,hn2,_⟩:=cnt_bound hc
  rw[hn,Int.toNat_natCast]at he⊢
  obtain⟨l',i1,i2,_⟩:=seqD_canon h b n (cnt b 1).2.1 [] (by omega) he
  rw[i1,List.nil_append,i2,←hn,c1]
  exact dec_range b
 ·rw[if_pos hc]at he
  exact absurd he hc
def VI (l:List Int):Prop:=(∀ x∈l,Is64 x)∧Is64 (l.length:Int)
theorem codecI:Codec encI decI VI where
 back:=fun l h t=>decL_back codec_int l t h.1 h.2
 canon:=fun b h=>by
  obtain⟨h1,h2,h3⟩:=decL_canon codec_int b h
  exact⟨⟨h1,decL_len codec_int b h⟩,h2,h3⟩
 short:=fun l h i hi=>decL_short codec_int l h.1 h.2 i hi
 pos:=fun l h=>by have:=(enc_le l.length).1;unfold encI;rw[List.length_append];omega
section
variable {α β:Type} {e:α→List UInt8} {d:List UInt8→α×Nat×Int} {V:α→Prop} {e2:β→List UInt8} {d2:List UInt8→β×Nat×Int} {V2:β→Prop}
/-- One behind the other. -/
def dP [Inhabited α] [Inhabited β] (d:List UInt8→α×Nat×Int) (d2:List UInt8→β×Nat×Int) (b:List UInt8):(α×β)×Nat×Int:=
 if(d b).2.2≠0 then(default,0,(d b).2.2)
 else if(d2 (b.drop (d b).2.1)).2.2≠0 then(default,0,(d2 (b.drop (d b).2.1)).2.2)
 else(((d b).1,(d2 (b.drop (d b).2.1)).1),(d b).2.1+(d2 (b.drop (d b).2.1)).2.1,0)
def eP (e:α→List UInt8) (e2:β→List UInt8) (x:α×β):List UInt8:=e x.1++e2 x.2
theorem codecP [Inhabited α] [Inhabited β] (h:Codec e d V) (h2:Codec e2 d2 V2):Codec (eP e e2) (dP d d2) (fun x=>V x.1∧V2 x.2) where
 back:=fun x hx t=>by
  have a:=h.back x.1 hx.1 (e2 x.2++t)
  have b:=h2.back x.2 hx.2 t
  unfold eP dP
  rw[List.append_assoc,a]
  simp only[ne_eq,not_true,if_false,List.drop_left]
  rw[b]
  simp
 canon:=fun b he=>by
  unfold dP at he⊢
  by_cases h0:(d b).2.2=0
  ·rw[if_neg (by simp[h0])]at he⊢
   by_cases h1:(d2 (b.drop (d b).2.1)).2.2=0
   ·rw[if_neg (by simp[h1])]at he⊢
    obtain⟨a1,a2,a3⟩:=h.canon b h0
    obtain⟨b1,b2,b3⟩:=h2.canon _ h1
    rw[List.length_drop]at b2
    refine⟨⟨a1,b1⟩,by simp only;omega, ?_⟩
    unfold eP
    simp only
    rw[List.take_add,a3,b3]
   ·rw[if_pos h1]at he
    exact absurd he h1
  ·rw[if_pos h0]at he
   exact absurd he h0
 short:=fun x hx i hi=>by
  unfold eP at hi⊢
  rw[List.length_append]at hi
  unfold dP
  rcases Nat.lt_or_ge i (e x.1).length with h1|h1
  ·have a:=h.short x.1 hx.1 i h1
   rw[List.take_append_of_le_length (by omega)]
   rw[if_pos (by rw[a];decide)]
   exact a
  ·have e1:(e x.1++e2 x.2).take i=e x.1++(e2 x.2).take (i - (e x.1).length):=by
    rw[List.take_append,List.take_of_length_le h1]
   have a:=h.back x.1 hx.1 ((e2 x.2).take (i - (e x.1).length))
   have b:=h2.short x.2 hx.2 (i - (e x.1).length) (by omega)
   rw[e1,a]
   simp only[ne_eq,not_true,if_false,List.drop_left]
   rw[if_pos (by rw[b];decide)]
   exact b
 pos:=fun x hx=>by
  have:=h.pos x.1 hx.1
  unfold eP
  rw[List.length_append]
  omega
/-- With a check; told otherwise. -/
def dM [Inhabited β] (d:List UInt8→α×Nat×Int) (f:α→Option β) (b:List UInt8):β×Nat×Int:=
 if(d b).2.2≠0 then(default,0,(d b).2.2)else match f (d b).1 with
  |some y=>(y,(d b).2.1,0)
  |none=>(default,0,2)
theorem codecM [Inhabited β] (h:Codec e d V) {f:α→Option β} {g:β→α} (h1:∀ y,V2 y→V (g y)∧f (g y)=some y) (h3:∀ x y,V x→f x=some y→g y=x∧V2 y):Codec (fun y=>e (g y)) (dM d f) V2 where
 back:=fun y hy t=>by
  obtain⟨a1,a2⟩:=h1 y hy
  have a:=h.back (g y) a1 t
  unfold dM
  rw[a]
  simp[a2]
 canon:=fun b he=>by
  unfold dM at he⊢
  by_cases h0:(d b).2.2=0
  ·rw[if_neg (by simp[h0])]at he⊢
   obtain⟨a1,a2,a3⟩:=h.canon b h0
   cases hf:f (d b).1 with
   |none=>rw[hf]at he;simp at he
   |some y=>
    obtain⟨b1,b2⟩:=h3 _ _ a1 hf
    refine⟨b2,a2, ?_⟩
    show b.take (d b).2.1=e (g y)
    rw[a3,b1]
  ·rw[if_pos h0]at he
   exact absurd he h0
 short:=fun y hy i hi=>by
  obtain⟨a1,a2⟩:=h1 y hy
  have a:=h.short (g y) a1 i hi
  unfold dM
  rw[if_pos (by rw[a];decide)]
  exact a
 pos:=fun y hy=>h.pos (g y) (h1 y hy).1
/-- Different things have different codes. -/
theorem Codec.inj (h:Codec e d V) {x y:α} (hx:V x) (hy:V y) (he:e x=e y):x=y:=by
 have a:=h.back x hx []
 have b:=h.back y hy []
 rw[he,b]at a
 exact(Prod.mk.inj a).1.symm
end
end Go.Proofs.YtfdfbenejkmnlaaGreatDoor.W
