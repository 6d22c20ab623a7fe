/-
 ARRAYS of the call's own, sliced: facts for the engine.
-/
import Derived.Test.YtfdfbenejkmnlaaGreatDoorDmD
import Derived.Laws.BitsAllLaws
import Derived.Test.YtfdfbenejkmnlaaGreatDoorCaS
namespace Go.Proofs.YtfdfbenejkmnlaaGreatDoor.E.Ca
open Go.RowKit
set_option linter.unusedVariables false
set_option linter.unusedSimpArgs false
section
variable {L:List CQ} {p:Int×Int} {q r c o:CQ} {b s v:Int} {i j k n:Nat} {cs:List Int}
noncomputable abbrev fTk:Func:=fnOf PP 61
abbrev hA_ (cs:List Int) (L:List CQ):List HO:=[.rw TI 1 (zs cs),.mp (mpL L),.bx TArc [.ow 0,.nm 1]]
abbrev aD (cs:List Int) (L:List CQ) (b:Bool) (e:Int):RD:= .io 3 (hA_ cs L) (.tu [bo b,ni e])
abbrev PT (cs:List Int) (L:List CQ) (c:CQ) (D:RD):Prop:=PureT PP 61 (hA_ cs L) [.lp 2 0,.ag (dQ c)] D
theorem tk_inv (hv:Pure PP 14 [.ag (dQ c)] (ni v)) (h:(v != 0)=true):PT cs L c (aD cs L false v):=by
 unfold PT aD hA_
 generalize mpL L=M at*
 exact trT [cl hv,ye h] (by kernel_rfl)
theorem tk_by (hv:Pure PP 14 [.ag (dQ c)] (ni 0)) (h:decide (c.by_≥((zs cs).length:Int))=true):PT cs L c (aD cs L false 1):=by
 unfold PT aD hA_
 generalize mpL L=M at*
 exact trT [cl hv,nf,nk 19 2,ye h] (by kernel_rfl)
theorem tk_had (hv:Pure PP 14 [.ag (dQ c)] (ni 0)) (h:decide (c.by_≥((zs cs).length:Int))=false) (hf:fnd L c.cm.nm=some o) (e:o=c):PT cs L c (aD cs L false 0):=by
 have l1:=lk1 (ok:=true) (b:=1) hf
 have nm:=e_arname c.cm
 have sm:=e_csame o c
 rw[decide_eq_true (eqP_iff.2 e)]at sm
 unfold PT aD hA_
 generalize mpL L=M at*
 exact trT [cl hv,nf,nk 19 2,na h,nk 26 2,cl nm,.ext (some 31) _ _ _ _ _ l1,yt,cl sm,yt] (by kernel_rfl)
theorem tk_two (hv:Pure PP 14 [.ag (dQ c)] (ni 0)) (h:decide (c.by_≥((zs cs).length:Int))=false) (hf:fnd L c.cm.nm=some o) (e:o≠c):PT cs L c (aD cs L false 7):=by
 have l1:=lk1 (ok:=true) (b:=1) hf
 have nm:=e_arname c.cm
 have sm:=e_csame o c
 rw[decide_eq_false (fun g=>e (eqP_iff.1 g))]at sm
 unfold PT aD hA_
 generalize mpL L=M at*
 exact trT [cl hv,nf,nk 19 2,na h,nk 26 2,cl nm,.ext (some 31) _ _ _ _ _ l1,yt,cl sm,nf] (by kernel_rfl)
/-- Behind what is there: the state at region 11. -/
noncomputable def tM (cs:List Int) (L:List CQ) (c:CQ):St:=at_ fTk [(2,.lp 3 0),(3,.lp 4 0),(9,.cl 95 [.lp 3 0])] (hL cs L c)
theorem tk_new (hv:Pure PP 14 [.ag (dQ c)] (ni 0)) (h:decide (c.by_≥((zs cs).length:Int))=false) (hf:fnd L c.cm.nm=none) {D:List HO×V} (g:Gd PP 61 (.io 3 D.1 D.2) (rg fTk 12) (tM cs L c)):PT cs L c (.io 3 D.1 D.2):=by
 have l0:=lk0 (ok:=true) (b:=1) hf
 have nm:=e_arname c.cm
 unfold tM hL at g
 unfold PT hA_
 generalize mpL L=M at*
 exact pfT (by kernel_rfl) (.to mo_ [] [2,3,9] [0,1,2,3,4] 5 [cl hv,nf,nk 19 2,na h,nk 26 2,cl nm,.ext (some 31) _ _ _ _ _ l0,nf] g (by kernel_rfl))
abbrev GT (D:RD) (td:List Item) (σ:St):Prop:=Gd PP 61 D td σ
variable {m:Nat}
theorem tn_seq (hb:c.by_=(k:Int)) (hk:(zs cs)[k]? =some [ni (m:Int)]) (h:(c.seq != (m:Int))=true):GT (aD cs L false 10) (rg fTk 12) (tM cs L c):=by
 unfold GT aD tM hL hA_
 generalize mpL L=M at*
 exact fi [nk 42 2,.eqv 46 (ni c.by_) (ni (k:Int)) (by rw[hb]),.sel _ _ _ hk,.sel _ _ _ hk,ye h,yt] (by kernel_rfl) (by kernel_rfl)
theorem tn_unk (hn:c.refs.length≤1000) (hb:c.by_=(k:Int)) (hk:(zs cs)[k]? =some [ni (m:Int)]) (h:(c.seq != (m:Int))=false) (hu:c.refs.any (unkB L)=true):GT (aD cs L false 10) (rg fTk 12) (tM cs L c):=by
 have cu:=e_contU (cs:=cs) (L:=L) hn
 rw[hu]at cu
 unfold hU at cu
 unfold GT aD tM hL hA_
 generalize mpL L=M at*
 exact fi [nk 42 2,.eqv 46 (ni c.by_) (ni (k:Int)) (by rw[hb]),.sel _ _ _ hk,.sel _ _ _ hk,na h,.lend _ _ _ _ [0,1,2,3] cu,yt] (by kernel_rfl) (by kernel_rfl)
theorem tn_late1 (hn:c.refs.length≤1000) (hb:c.by_=(k:Int)) (hk:(zs cs)[k]? =some [ni (m:Int)]) (h:(c.seq != (m:Int))=false) (hu:c.refs.any (unkB L)=false) (hl:c.refs.any (lateB L c)=true):GT (aD cs L false 5) (rg fTk 12) (tM cs L c):=by
 have cu:=e_contU (cs:=cs) (L:=L) hn
 have cl_:=e_contL (cs:=cs) (L:=L) (c:=c) hn
 rw[hu]at cu
 rw[hl]at cl_
 unfold hU at cu
 unfold hL at cl_
 unfold GT aD tM hL hA_
 generalize mpL L=M at*
 exact fi [nk 42 2,.eqv 46 (ni c.by_) (ni (k:Int)) (by rw[hb]),.sel _ _ _ hk,.sel _ _ _ hk,na h,.lend _ _ _ _ [0,1,2,3] cu,nf,.lend _ _ _ _ [0,1,2,3,4] cl_,yt,yt] (by kernel_rfl) (by kernel_rfl)
theorem tn_late2 (hn:c.refs.length≤1000) (hb:c.by_=(k:Int)) (hk:(zs cs)[k]? =some [ni (m:Int)]) (h:(c.seq != (m:Int))=false) (hu:c.refs.any (unkB L)=false) (hl:c.refs.any (lateB L c)=false) (h0:decide (c.seq>0)=true) (hs:c.seq≤200) (hp:lateB L c (c.by_,c.seq - 1)=true):GT (aD cs L false 5) (rg fTk 12) (tM cs L c):=by
 have cu:=e_contU (cs:=cs) (L:=L) hn
 have cl_:=e_contL (cs:=cs) (L:=L) (c:=c) hn
 have lp_:=e_late (cs:=cs) (c:=c) L (c.by_,c.seq - 1)
 have h00:=of_decide_eq_true h0
 rw[hu]at cu
 rw[hl]at cl_
 rw[hp]at lp_
 unfold hU at cu
 unfold hL at cl_
 unfold arO at lp_
 unfold GT aD tM hL hA_
 generalize mpL L=M at*
 exact fi [nk 42 2,.eqv 46 (ni c.by_) (ni (k:Int)) (by rw[hb]),.sel _ _ _ hk,.sel _ _ _ hk,na h,.lend _ _ _ _ [0,1,2,3] cu,nf,.lend _ _ _ _ [0,1,2,3,4] cl_,nf,ye h0,wq 71 (c.seq - 1) (c.seq - 1) (by omega),.lend _ _ _ _ [0,1,2,3,4] lp_,yt] (by kernel_rfl) (by kernel_rfl)
/-- Behind the ticks: region 17. -/
theorem tn_on (hn:c.refs.length≤1000) (hb:c.by_=(k:Int)) (hk:(zs cs)[k]? =some [ni (m:Int)]) (h:(c.seq != (m:Int))=false) (hu:c.refs.any (unkB L)=false) (hl:c.refs.any (lateB L c)=false) (hs:0≤c.seq∧c.seq≤200) (hp:0<c.seq→lateB L c (c.by_,c.seq - 1)=false) {D:List HO×V} (g:GT (.io 3 D.1 D.2) (rg fTk 17) (tM cs L c)):GT (.io 3 D.1 D.2) (rg fTk 12) (tM cs L c):=by
 have cu:=e_contU (cs:=cs) (L:=L) hn
 have cl_:=e_contL (cs:=cs) (L:=L) (c:=c) hn
 rw[hu]at cu
 rw[hl]at cl_
 unfold hU at cu
 unfold hL at cl_
 by_cases h0:0<c.seq
 · have h00:decide (c.seq>0)=true:=decide_eq_true h0
   have lp_:=e_late (cs:=cs) (c:=c) L (c.by_,c.seq - 1)
   rw[hp h0]at lp_
   unfold arO at lp_
   unfold GT tM hL at g⊢
   generalize mpL L=M at*
   exact .to mo_ [] [2,3,9] [0,1,2,3,4] 5 [nk 42 2,.eqv 46 (ni c.by_) (ni (k:Int)) (by rw[hb]),.sel _ _ _ hk,.sel _ _ _ hk,na h,.lend _ _ _ _ [0,1,2,3] cu,nf,.lend _ _ _ _ [0,1,2,3,4] cl_,nf,ye h00,wq 71 (c.seq - 1) (c.seq - 1) (by omega),.lend _ _ _ _ [0,1,2,3,4] lp_,nf] g (by kernel_rfl)
 · have h00:decide (c.seq>0)=false:=decide_eq_false h0
   unfold GT tM hL at g⊢
   generalize mpL L=M at*
   exact .to mo_ [] [2,3,9] [0,1,2,3,4] 5 [nk 42 2,.eqv 46 (ni c.by_) (ni (k:Int)) (by rw[hb]),.sel _ _ _ hk,.sel _ _ _ hk,na h,.lend _ _ _ _ [0,1,2,3] cu,nf,.lend _ _ _ _ [0,1,2,3,4] cl_,nf,na h00,nf] g (by kernel_rfl)
theorem ml_len (L:List CQ) {b:Nat}:Ext PP (fun xs=> .call {callee:= .builtin .len,args:= #[xs.getD 0 (.tmp 0)],argTypes:= #[TMap]}) [.nm b] [(b,.mp (mpL L))] [] (ni (L.length:Int)):=by
 have h:=x_mlen (P:=PP) (T:=TMap) kT.t (b:=b) (l:=mpL L)
 rw[show(mpL L).length=L.length from List.length_map ..]at h
 exact h
theorem tn_full (h:decide ((L.length:Int)≥200)=true):GT (aD cs L false 4) (rg fTk 17) (tM cs L c):=by
 have ml:=ml_len (b:=1) L
 unfold GT aD tM hL hA_
 generalize mpL L=M at*
 exact fi [nk 77 2,.ext (some 80) _ _ _ _ _ ml,ye h] (by kernel_rfl) (by kernel_rfl)
theorem tn_ok {cs':List Int} (hn:c.refs.length≤1000) (h:decide ((L.length:Int)≥200)=false) (hb:c.by_=(k:Int)) (hk:(zs cs)[k]? =some [ni (m:Int)]) (hm:m≤1000) (hf:fnd L c.cm.nm=none) (hc:(zs cs).set k [ni ((m+1:Nat):Int)]=zs cs'):GT (aD cs' (L++[c]) true 0) (rg fTk 17) (tM cs L c):=by
 have ml:=ml_len (b:=1) L
 have mu:=mu_ (b:=1) hf
 have nm:=e_arname c.cm
 have ow:=e_own c.cm hn
 unfold GT aD tM hL hA_
 generalize mpL L=M at*
 generalize mpL (L++[c])=M' at*
 exact fi [nk 77 2,.ext (some 80) _ _ _ _ _ ml,na h,nk 83 2,cl nm,cl ow,.ext none _ _ _ _ _ mu,nk 91 2,.eqv 95 (ni c.by_) (ni (k:Int)) (by rw[hb]),.sel _ _ _ hk,.sel _ _ _ hk,inc 98 m (by omega),.sel _ _ _ hk,.upd _ _ _ _ _ hk hc] (by kernel_rfl) (by kernel_rfl)
end
end Go.Proofs.YtfdfbenejkmnlaaGreatDoor.E.Ca
namespace Go.Proofs.YtfdfbenejkmnlaaGreatDoor.Shw
open Go
set_option linter.unusedVariables false
set_option linter.unusedSimpArgs false
abbrev Wd:Type:=BitVec 32
def wi (x:Wd):Int:=(x.toNat:Int)
section
variable {x y:Wd} {n:Nat}
theorem w_lt (x:Wd):x.toNat<4294967296:=x.isLt
theorem w_xor (x y:Wd):bits .xor .u32 (wi x) (wi y)=wi (x ^^^ y):=by
 unfold wi
 rw[u32_xor_nat _ _ (w_lt x) (w_lt y),BitVec.toNat_xor]
theorem w_and (x y:Wd):bits .and .u32 (wi x) (wi y)=wi (x &&& y):=by
 unfold wi
 rw[u32_and_nat _ _ (w_lt x) (w_lt y),BitVec.toNat_and]
theorem w_or (x y:Wd):bits .or .u32 (wi x) (wi y)=wi (x ||| y):=by
 unfold wi
 rw[u32_or_nat _ _ (w_lt x) (w_lt y),BitVec.toNat_or]
theorem w_add (x y:Wd):IntKind.u32.wrap (wi x+wi y)=wi (x+y):=by
 unfold wi
 rw[IntKind.wrap_u32',BitVec.toNat_add]
 omega
theorem w_shl (x:Wd) (n:Nat):IntKind.u32.wrap (wi x*2 ^ n)=wi (x <<< n):=by
 unfold wi
 rw[IntKind.wrap_u32',BitVec.toNat_shiftLeft,Nat.shiftLeft_eq]
 have:((x.toNat:Int)*2 ^ n)=((x.toNat*2 ^ n:Nat):Int):=by rw[Int.natCast_mul,Int.natCast_pow];rfl
 rw[this]
 omega
theorem w_shr (x:Wd) (n:Nat):(wi x).fdiv (2 ^ n)=wi (x >>> n):=by
 unfold wi
 rw[BitVec.toNat_ushiftRight,Nat.shiftRight_eq_div_pow,show((2:Int) ^ n)=((2 ^ n:Nat):Int)by rw[Int.natCast_pow];rfl,Int.fdiv_eq_ediv_of_nonneg _ (Int.natCast_nonneg _)]
 rfl
theorem w_not (x:Wd):x ^^^ 0xffffffff#32= ~~~x:=by
 exact BitVec.xor_allOnes
end
/-- A rotation to the right. -/
def rr (n:Nat) (x:Wd):Wd:=(x >>> n) ||| (x <<< (32 - n))
theorem rr_l (n:Nat) (x:Wd):(x <<< (32 - n)) ||| (x >>> n)=rr n x:=BitVec.or_comm _ _
def bs0 (x:Wd):Wd:=rr 2 x ^^^ rr 13 x ^^^ rr 22 x
def bs1 (x:Wd):Wd:=rr 6 x ^^^ rr 11 x ^^^ rr 25 x
def ss0 (x:Wd):Wd:=rr 7 x ^^^ rr 18 x ^^^ (x >>> 3)
def ss1 (x:Wd):Wd:=rr 17 x ^^^ rr 19 x ^^^ (x >>> 10)
def chW (e f g:Wd):Wd:=(e &&& f) ^^^ (~~~e &&& g)
def maW (a b c:Wd):Wd:=(a &&& b) ^^^ (a &&& c) ^^^ (b &&& c)
/-- A word of a block. -/
def bw (a b c d:UInt8):Wd:=(BitVec.ofNat 32 a.toNat <<< 24) ||| (BitVec.ofNat 32 b.toNat <<< 16) ||| (BitVec.ofNat 32 c.toNat <<< 8) ||| BitVec.ofNat 32 d.toNat
theorem or_fold (A B C D:Wd):((((((((0#32 <<< 8) ||| A) <<< 8) ||| B) <<< 8) ||| C) <<< 8) ||| D)=(A <<< 24) ||| (B <<< 16) ||| (C <<< 8) ||| D:=by
 have h0:(0#32 <<< 8:Wd)=0#32:=rfl
 rw[h0,BitVec.zero_or]
 simp only[BitVec.shiftLeft_or_distrib,←BitVec.shiftLeft_add]
/-- The schedule: so many words of it. -/
def wordsU (b:List UInt8):Nat→List Wd
 |0=>[]
 |t+1=>
  let w:=wordsU b t
  w++[if t<16 then bw (b.getD (4*t) 0) (b.getD (4*t+1) 0) (b.getD (4*t+2) 0) (b.getD (4*t+3) 0)else w.getD (t - 16) 0+ss0 (w.getD (t - 15) 0)+w.getD (t - 7) 0+ss1 (w.getD (t - 2) 0)]
theorem wordsU_len (b:List UInt8):∀ t,(wordsU b t).length=t
 |0=>rfl
 |t+1=>by
  have:=wordsU_len b t
  simp[wordsU,this]
structure S8 where
 a:Wd
 b:Wd
 c:Wd
 d:Wd
 e:Wd
 f:Wd
 g:Wd
 h:Wd
/-- A round. -/
def S8.round (s:S8) (k w:Wd):S8:=
 let x:=s.h+bs1 s.e+chW s.e s.f s.g+k+w
 let y:=bs0 s.a+maW s.a s.b s.c
 ⟨x+y,s.a,s.b,s.c,s.d+x,s.e,s.f,s.g⟩
def S8.add (s t:S8):S8:=⟨s.a+t.a,s.b+t.b,s.c+t.c,s.d+t.d,s.e+t.e,s.f+t.f,s.g+t.g,s.h+t.h⟩
/-- So many rounds. -/
def S8.rounds (K W:List Wd) (s:S8):Nat→S8
 |0=>s
 |t+1=>(S8.rounds K W s t).round (K.getD t 0) (W.getD t 0)
def S8.block (K:List Wd) (s:S8) (b:List UInt8):S8:=s.add (S8.rounds K (wordsU b 64) s 64)
/-- The whole blocks of a text. -/
def S8.blocks (K:List Wd) (s:S8) (m:List UInt8):Nat→S8
 |0=>s
 |n+1=>(S8.blocks K s m n).block K ((m.drop (64*n)).take 64)
end Go.Proofs.YtfdfbenejkmnlaaGreatDoor.Shw
namespace Go.Proofs.YtfdfbenejkmnlaaGreatDoor.Shw
open Go
set_option linter.unusedVariables false
set_option linter.unusedSimpArgs false
section
variable {K:List Wd} {s iv st:S8} {m t blk:List UInt8} {n k:Nat}
theorem blocks_app (h:64*n≤m.length):S8.blocks K s (m++t) n=S8.blocks K s m n:=by
 induction n with
 |zero=>rfl
 |succ n ih=>
  have e:((m++t).drop (64*n)).take 64=(m.drop (64*n)).take 64:=by
   rw[List.drop_append_of_le_length (by omega),List.take_append_of_le_length (by rw[List.length_drop];omega)]
  show(S8.blocks K s (m++t) n).block K _=(S8.blocks K s m n).block K _
  rw[ih (by omega),e]
/-- What a stream holds behind a text: the state, the last block. -/
structure Str (K:List Wd) (iv:S8) (m:List UInt8) (st:S8) (blk:List UInt8):Prop where
 st:st=S8.blocks K iv m (m.length / 64)
 len:blk.length=64
 blk:blk.take (m.length % 64)=m.drop (64*(m.length / 64))
theorem Str.nil (h:blk.length=64):Str K iv [] iv blk:=⟨rfl,h,by simp⟩
/-- The block behind k further bytes. -/
def blkU (blk:List UInt8) (a k:Nat) (t:List UInt8):List UInt8:=blk.take a++(t.take k++blk.drop (a+k))
theorem blkU_len (h:blk.length=64) (hk:n+k≤64) (ht:k≤t.length):(blkU blk n k t).length=64:=by
 unfold blkU
 simp only[List.length_append,List.length_take,List.length_drop]
 omega
/-- Bytes that do not fill the block. -/
theorem Str.part (H:Str K iv m st blk) (hk:m.length % 64+k<64) (ht:k≤t.length):Str K iv (m++t.take k) st (blkU blk (m.length % 64) k t):=by
 obtain⟨h1,h2,h3⟩:=H
 have hl:(m++t.take k).length=m.length+k:=by rw[List.length_append,List.length_take];omega
 have hq:(m.length+k) / 64=m.length / 64:=by omega
 have hr:(m.length+k) % 64=m.length % 64+k:=by omega
 refine⟨?_,blkU_len h2 (by omega) ht, ?_⟩
 · rw[hl,hq,blocks_app (by omega)]
   exact h1
 · rw[hl,hr,hq,List.drop_append_of_le_length (by omega),←h3]
   unfold blkU
   rw[←List.append_assoc,List.take_append_of_le_length (by simp only[List.length_append,List.length_take];omega),List.take_of_length_le (by simp only[List.length_append,List.length_take];omega)]
/-- Bytes that fill the block. -/
theorem Str.full (H:Str K iv m st blk) (hk:m.length % 64+k=64) (ht:k≤t.length):Str K iv (m++t.take k) (st.block K (blkU blk (m.length % 64) k t)) (blkU blk (m.length % 64) k t):=by
 obtain⟨h1,h2,h3⟩:=H
 have hl:(m++t.take k).length=m.length+k:=by rw[List.length_append,List.length_take];omega
 have hq:(m.length+k) / 64=m.length / 64+1:=by omega
 have hr:(m.length+k) % 64=0:=by omega
 have hb:blkU blk (m.length % 64) k t=(m++t.take k).drop (64*(m.length / 64)):=by
  rw[List.drop_append_of_le_length (by omega),←h3]
  unfold blkU
  rw[hk,List.drop_of_length_le (by omega),List.append_nil]
 have hbl:=blkU_len h2 (Nat.le_of_eq hk) ht
 refine⟨?_,hbl, ?_⟩
 · rw[hl,hq]
   show _=(S8.blocks K iv (m++t.take k) (m.length / 64)).block K (((m++t.take k).drop (64*(m.length / 64))).take 64)
   rw[blocks_app (by omega),←h1,←hb,List.take_of_length_le (Nat.le_of_eq hbl)]
 · rw[hl,hr,hq,List.take_zero,List.drop_of_length_le (by omega)]
/-- What is written behind a text. -/
def zerosN (n:Nat):Nat:=(119 - n % 64) % 64
def padU (n:Nat):List UInt8:=128::(List.replicate (zerosN n) 0++(List.range 8).map fun i=>UInt8.ofNat (8*n / 2 ^ (56 - 8*i)))
theorem padU_len (n:Nat):(n+(padU n).length) % 64=0:=by
 unfold padU zerosN
 simp only[List.length_cons,List.length_append,List.length_replicate,List.length_map,List.length_range]
 omega
/-- The state behind the whole text. -/
def shaS (K:List Wd) (iv:S8) (m:List UInt8):S8:=S8.blocks K iv (m++padU m.length) ((m++padU m.length).length / 64)
end
end Go.Proofs.YtfdfbenejkmnlaaGreatDoor.Shw
namespace Go.Proofs.YtfdfbenejkmnlaaGreatDoor.E
open Go.RowKit
set_option linter.unusedVariables false
set_option linter.unusedSimpArgs false
section
variable {P:Program} {w:World}
def mkIa (T:TypeId) (xs:List Operand):Op:= .indexAddr T (xs.getD 0 (.tmp 0)) (xs.getD 1 (.tmp 0))
def mkLd (T:TypeId) (xs:List Operand):Op:= .load T (xs.getD 0 (.tmp 0))
def mkSt (T:TypeId) (xs:List Operand):Op:= .store T (xs.getD 0 (.tmp 0)) (xs.getD 1 (.tmp 0))
theorem ops2 {α:Type} {xs:List α} (h:xs.length=2):∃ x y,xs=[x,y]:=by
 match xs,h with
 |[x,y],_=>exact⟨x,y,rfl⟩
theorem ops1 {α:Type} {xs:List α} (h:xs.length=1):∃ x,xs=[x]:=by
 match xs,h with
 |[x],_=>exact⟨x,rfl⟩
/-- The address of an element of an array. -/
theorem x_ia {T e n q b o t:Nat} (hd:P.underlying T=some (.array n e)) (hq:szT P e=some q) (ht:t<n):Ext P (mkIa T) [.lp b o,ni (t:Int)] [] [] (.lp b (o+t*q)):=by
 intro B M h m w a op xs ho K hl hr hrd _
 obtain⟨x,y,rfl⟩:=ops2 hl
 have hx:=hr 0 x _ rfl rfl
 have hy:=Rep.k_inv (hr 1 y _ rfl rfl)
 simp only[mkIa,List.getD_cons_zero,List.getD_cons_succ]at ho
 generalize hu:a.eval x=u at hx
 cases hx with
 |lp _ _ _ g hg=>
  refine Exec.val (u:= .pointer (some ⟨g,o+t*q,none⟩)) (w':=w) ?_ (.same K (.lp _ _ _ _ hg))
  have h1:(0:Int)≤(t:Int):=Int.natCast_nonneg t
  have h2:(t:Int)<(n:Int):=Int.ofNat_lt.2 ht
  simp[execOp,ho,Instr.indexAt,run_under hd,hu,hy,asIntOf,Instr.sureAddr,h1,h2,ht,run_size hq,Addr.add_lit]
/-- A cell of a box is read. -/
theorem x_ld {T U b o:Nat} {l:List V} {d:V} (hp:pack P T [d]=some d) (hd:l[o]? =some d):Ext P (mkLd T) [.lp b o] [(b,.bx U l)] [] d:=by
 intro B M h m w a op xs ho K hl hr hrd _
 obtain⟨x,rfl⟩:=ops1 hl
 have hx:=hr 0 x _ rfl rfl
 have hb:h b= .bx U l:=hrd (b,.bx U l) (List.mem_singleton.2 rfl)
 simp only[mkLd,List.getD_cons_zero]at ho
 obtain⟨g,cs,h1,h2,h3,h4,h5⟩:=K.bx b U l hb
 have ho2:o<cs.size:=by rw[h4];exact(List.getElem?_eq_some_iff.1 hd).1
 generalize hu:a.eval x=u at hx
 cases hx with
 |lp _ _ _ g' hg=>
  rw[h1]at hg
  injection hg with hg
  injection hg with hg
  injection hg with hg
  injection hg with hg
  subst hg
  obtain⟨v,e1,e2⟩:=load_ok (P:=P) (w:=w) (b:=g) (o:=o) hp (fun j y hj=>by
   match j with
   |0=>
    injection hj with hj
    subst hj
    exact⟨cs.getD o undef,by simp[World.cell?,h3,ho2],h5 o d hd⟩
   |j+1=>simp at hj)
  refine Exec.val (u:=v) (w':=w) ?_ (.same K e2)
  simp[execOp,ho,Instr.loadAt,hu,Instr.sureAddr,e1]
def stO (T:TypeId) (o:Oper):Oper:={o with op:=mkSt T [.tmp 0,.tmp 1],guard:=none}
theorem splice1 {l:List V} {o:Nat} {v:V} (h:o<l.length):splice l o [v]=l.set o v:=by
 unfold splice
 rw[List.set_eq_take_append_cons_drop,if_pos h]
 simp
/-- A cell of a box is written. -/
theorem x_st {T U b o:Nat} {l l':List V} {v:V} (hs:szT P T=some 1) (hc:ceV v=[v]) (h1v:one v=true) (ho3:o<l.length) (hl':l.set o v=l'):Ext P (mkSt T) [.lp b o,v] [(b,.bx U l)] [(b,.bx U l')] .un:=by
 intro B M h m w a op xs ho K hl hr hrd _
 obtain⟨x,y,rfl⟩:=ops2 hl
 have hx:=hr 0 x _ rfl rfl
 have hy:=hr 1 y _ rfl rfl
 have hb:h b= .bx U l:=hrd (b,.bx U l) (List.mem_singleton.2 rfl)
 let a':Act:={a with tmps:= #[a.eval x,a.eval y]}
 let σ:St:=⟨[.lp b o,v],(List.replicate (b+1) HO.dead).set b (.bx U l)⟩
 have hlen:σ.h.length=b+1:=by simp[σ]
 have hho:σ.ho b= .bx U l:=by simp[σ,St.ho]
 have e0:aop P (stO T op) σ ([]:List (Fa P))=some ⟨.un,[(b,.bx U l')],[],[],[]⟩:=by
  have s1:σ.ev (.tmp 0)= .lp b o:=rfl
  have s2:σ.evT P T (.tmp 1)=v:=rfl
  have hble:Nat.ble (o+1) l.length=true:=Nat.ble_eq_true_of_le ho3
  have hbe:Nat.beq 1 1=true:=rfl
  show (match σ.ev (.tmp 0) with
   | .lp b o=>match σ.ho b with
     | .bx U l=>match (match szT P T with|some n=>Nat.beq n (ceV (σ.evT P T (.tmp 1))).length|none=>false)&&Nat.ble (o+(ceV (σ.evT P T (.tmp 1))).length) l.length&&(ceV (σ.evT P T (.tmp 1))).all one with
       |true=>(some (⟨.un,[(b,.bx U (splice l o (ceV (σ.evT P T (.tmp 1)))))],[],[],[]⟩:R P))
       |false=>none
     |_=>none
   |_=>none)=_
  rw[s1]
  simp only[hho,s2,hc,hs,List.length_cons,List.length_nil,Nat.zero_add,hbe,hble,List.all_cons,List.all_nil,h1v,Bool.and_self,Bool.and_true,splice1 ho3,hl']
 have hop:Opd w (Av M h m) m (stO T op) a' σ:=by
  refine⟨fun t ht=> ?_,K.gl⟩
  have:t=0∨t=1:=by simpa[looks,stO,mkSt,Op.operands]using ht
  rcases this with rfl|rfl
  · exact hx
  · exact hy
 have G:=store_ok (o:=stO T op) (a:=a') K rfl e0 (fun p hp=>by cases hp) hop (fun c hc hlt=>by
   simp only[List.map_cons,List.map_nil,List.mem_cons,List.not_mem_nil,or_false]at hc
   subst hc
   rw[hb,hho])
 have heq:execOp a'.eval (stO T op)=execOp a.eval op:=by
  have e1:a'.eval (.tmp 0)=a.eval x:=rfl
  have e2:a'.eval (.tmp 1)=a.eval y:=rfl
  simp[execOp,stO,mkSt,ho,e1,e2]
 unfold Goal_ Exec at G
 rw[heq]at G
 exact G
def mkIx (T:TypeId) (xs:List Operand):Op:= .index T (xs.getD 0 (.tmp 0)) (xs.getD 1 (.tmp 0))
/-- An element of an array that is a value. -/
theorem x_ix {T n e t:Nat} {l:List V} {d:V} (hd:P.underlying T=some (.array n e)) (hq:szT P e=some 1) (ht:t<n) (hp:pack P e [d]=some d) (hl0:l[t]? =some d):Ext P (mkIx T) [.ag l,ni (t:Int)] [] [] d:=by
 intro B M h m w a op xs ho K hl hr hrd _
 obtain⟨x,y,rfl⟩:=ops2 hl
 have hx:=hr 0 x _ rfl rfl
 have hy:=Rep.k_inv (hr 1 y _ rfl rfl)
 simp only[mkIx,List.getD_cons_zero,List.getD_cons_succ]at ho
 have hv:pack P e ((l.drop (t*1)).take 1)=some d:=by
  rw[Nat.mul_one,List.drop_eq_getElem_cons (List.getElem?_eq_some_iff.1 hl0).1,List.take_succ_cons,List.take_zero,(List.getElem?_eq_some_iff.1 hl0).2]
  exact hp
 generalize hu:a.eval x=u at hx
 cases hx with
 |ag _ cs _ s1 r1=>
  obtain⟨u,h1,h2⟩:=part_ok s1 r1 hq hv
  refine Exec.val (u:=u) (w':=w) ?_ (.same K h2)
  have g1:(0:Int)≤(t:Int):=Int.natCast_nonneg t
  have g2:(t:Int)<(n:Int):=Int.ofNat_lt.2 ht
  rw[Nat.mul_one]at h1
  simp[execOp,ho,Instr.index,hu,hy,asIntOf,run_under hd,run_size hq,g1,g2,ht,h1]
end
end Go.Proofs.YtfdfbenejkmnlaaGreatDoor.E
namespace Go.Proofs.YtfdfbenejkmnlaaGreatDoor.E.Ct
open Go.RowKit
set_option linter.unusedVariables false
set_option linter.unusedSimpArgs false
theorem three_of {α:Type} {xs:List α} (h:xs.length=3):∃ x y z,xs=[x,y,z]:=by
 match xs,h with
 |[x,y,z],_=>exact⟨x,y,z,rfl⟩
def mkC2 (ts:Array TypeId) (xs:List Operand):Op:= .call ⟨.value (xs.getD 0 (.tmp 0)), #[xs.getD 1 (.tmp 0),xs.getD 2 (.tmp 0)],ts⟩
end Go.Proofs.YtfdfbenejkmnlaaGreatDoor.E.Ct
namespace Go.Proofs.YtfdfbenejkmnlaaGreatDoor.E
open Go.RowKit Ct
set_option linter.unusedVariables false
set_option linter.unusedSimpArgs false
section
variable {P:Program} {w:World}
def mkSb0 (T:TypeId) (xs:List Operand):Op:= .slice T (xs.getD 0 (.tmp 0)) none none none
def mkSb1 (T:TypeId) (xs:List Operand):Op:= .slice T (xs.getD 0 (.tmp 0)) (some (xs.getD 1 (.tmp 0))) none none
/-- A slice of an array in a box. -/
theorem x_bs0 {T n e b o:Nat} (hd:P.underlying T=some (.array n e)) (hq:szT P e=some 1) (hn:0<n):Ext P (mkSb0 T) [.lp b o] [] [] (.bs b o n n):=by
 intro B M h m w a op xs ho K hl hr hrd _
 obtain⟨x,rfl⟩:=ops1 hl
 have hx:=hr 0 x _ rfl rfl
 simp only[mkSb0,List.getD_cons_zero]at ho
 generalize hu:a.eval x=u at hx
 cases hx with
 |lp _ _ _ g hg=>
  refine Exec.val (u:= .slice (some ⟨g,o,none⟩) n n) (w':=w) ?_ (.same K (.bs _ _ _ _ _ _ hg))
  simp[execOp,ho,Instr.sliceAt,Instr.sliceBounds,hu,Instr.sureAddr,run_under hd,run_size hq,show n≠0 by omega,Addr.add_lit]
theorem x_bs1 {T n e b o i:Nat} (hd:P.underlying T=some (.array n e)) (hq:szT P e=some 1) (hi:i<n):Ext P (mkSb1 T) [.lp b o,ni (i:Int)] [] [] (.bs b (o+i) (n - i) (n - i)):=by
 intro B M h m w a op xs ho K hl hr hrd _
 obtain⟨x,y,rfl⟩:=ops2 hl
 have hx:=hr 0 x _ rfl rfl
 have hy:=Rep.k_inv (hr 1 y _ rfl rfl)
 simp only[mkSb1,List.getD_cons_zero,List.getD_cons_succ]at ho
 generalize hu:a.eval x=u at hx
 cases hx with
 |lp _ _ _ g hg=>
  refine Exec.val (u:= .slice (some ⟨g,o+i,none⟩) (n - i) (n - i)) (w':=w) ?_ (.same K (.bs _ _ _ _ _ _ hg))
  simp[execOp,ho,Instr.sliceAt,Instr.sliceBounds,Instr.sliceBound,asIntOf,hu,hy,Instr.sureAddr,run_under hd,run_size hq,show n≠i by omega,Addr.add_lit,Nat.le_of_lt hi]
def mkSb2 (T:TypeId) (xs:List Operand):Op:= .slice T (xs.getD 0 (.tmp 0)) none (some (xs.getD 1 (.tmp 0))) none
theorem x_bs2 {T n e b o i:Nat} (hd:P.underlying T=some (.array n e)) (hq:szT P e=some 1) (hn:0<n) (hi:i≤n):Ext P (mkSb2 T) [.lp b o,ni (i:Int)] [] [] (.bs b o i n):=by
 intro B M h m w a op xs ho K hl hr hrd _
 obtain⟨x,y,rfl⟩:=ops2 hl
 have hx:=hr 0 x _ rfl rfl
 have hy:=Rep.k_inv (hr 1 y _ rfl rfl)
 simp only[mkSb2,List.getD_cons_zero,List.getD_cons_succ]at ho
 generalize hu:a.eval x=u at hx
 cases hx with
 |lp _ _ _ g hg=>
  refine Exec.val (u:= .slice (some ⟨g,o,none⟩) i n) (w':=w) ?_ (.same K (.bs _ _ _ _ _ _ hg))
  simp[execOp,ho,Instr.sliceAt,Instr.sliceBounds,Instr.sliceBound,asIntOf,hu,hy,Instr.sureAddr,run_under hd,run_size hq,show n≠0 by omega,Addr.add_lit,hi]
def mkSa (T:TypeId) (xs:List Operand):Op:= .sliceToArrayPointer T (xs.getD 0 (.tmp 0))
/-- A slice of an array in a box, as an array. -/
theorem x_s2p {T n e b o k c:Nat} (hd:P.underlying T=some (.array n e)) (hk:n≤k):Ext P (mkSa T) [.bs b o k c] [] [] (.lp b o):=by
 intro B M h m w a op xs ho K hl hr hrd _
 obtain⟨x,rfl⟩:=ops1 hl
 have hx:=hr 0 x _ rfl rfl
 simp only[mkSa,List.getD_cons_zero]at ho
 generalize hu:a.eval x=u at hx
 cases hx with
 |bs _ _ _ _ _ g hg=>
  refine Exec.val (u:= .pointer (some ⟨g,o,none⟩)) (w':=w) ?_ (.same K (.lp _ _ _ _ hg))
  simp[execOp,ho,Instr.arrayAt,hu,run_under hd,show¬k<n by omega]
/-- The address of an element of an array that is only read. -/
theorem x_ip {T e n q t:Nat} {l:List V} (hd:P.underlying T=some (.array n e)) (hq:szT P e=some q) (ht:t<n):Ext P (mkIa T) [.ip l,ni (t:Int)] [] [] (.ip (l.drop (t*q))):=by
 intro B M h m w a op xs ho K hl hr hrd _
 obtain⟨x,y,rfl⟩:=ops2 hl
 have hx:=hr 0 x _ rfl rfl
 have hy:=Rep.k_inv (hr 1 y _ rfl rfl)
 simp only[mkIa,List.getD_cons_zero,List.getD_cons_succ]at ho
 generalize hu:a.eval x=u at hx
 cases hx with
 |ip _ b o _ us h3 h4 h5 h6=>
  refine Exec.val (u:= .pointer (some ⟨b,o+t*q,none⟩)) (w':=w) ?_ (.same K (.ip _ b (o+t*q) _ (fun j=>us (t*q+j)) h3 h4 (fun j x hj=> ?_) (fun j x hj=> ?_)))
  · have h1:(0:Int)≤(t:Int):=Int.natCast_nonneg t
    have h2:(t:Int)<(n:Int):=Int.ofNat_lt.2 ht
    simp[execOp,ho,Instr.indexAt,run_under hd,hu,hy,asIntOf,Instr.sureAddr,h1,h2,ht,run_size hq,Addr.add_lit]
  · rw[List.getElem?_drop]at hj
    rw[Nat.add_assoc]
    exact h5 _ _ hj
  · rw[List.getElem?_drop]at hj
    exact h6 _ _ hj
/-- Values that stand for themselves. -/
theorem ag_k {A A':Nat→Prop} {m m':Nat→Option Value} {w':World} {u:Value} {l:List V} (hl:l.all isK=true) (hr:Rep w A m u (.ag l)):Rep w' A' m' u (.ag l):=by
 cases hr with
 |ag _ cs _ h1 h2=>
  refine .ag _ cs _ h1 fun j x hx=> ?_
  have h3:=h2 j x hx
  have h4:=List.all_eq_true.1 hl x (List.mem_of_getElem? hx)
  cases x with
  |k v=>rw[Rep.k_inv h3];exact .k _ _
  |_=>cases h4
/-- A call to which a slice of an array in a box is given: it is only read. -/
theorem x_cbs {f:FuncId} {ts:Array TypeId} {b o n c U:Nat} {cells:List V} {l:List (List V)} {y d:V} {dl:List V} (hp:Pure P f [y,.sl l] (.v d)) (hd:d= .ag dl) (hdl:dl.all isK=true) (hy:refs (fun _=>false) y=true) (hln:l.length=n) (hnc:n≤c) (hc:c≤maxLen)
 (hz:∀ cs∈l,cs.length=1) (hl:∀ i cs x,l[i]? =some cs→cs[0]? =some x→isK x=true∧cells[o+i]? =some x):Ext P (mkC2 ts) [.cl f [],y,.bs b o n c] [(b,.bx U cells)] [] d:=by
 subst hd
 intro B M h m w a op xs ho K hxl hr hrd _
 obtain⟨x0,x1,x2,rfl⟩:=three_of hxl
 have r0:=hr 0 x0 _ rfl rfl
 have r1:=hr 1 x1 _ rfl rfl
 have r2:=hr 2 x2 _ rfl rfl
 have hb:h b= .bx U cells:=hrd (b,.bx U cells) (List.mem_singleton.2 rfl)
 obtain⟨g,cs,e1,e2,e3,e4,e5⟩:=K.bx b U cells hb
 simp only[mkC2,List.getD_cons_zero,List.getD_cons_succ]at ho
 have hce:a.eval x0= .func (.func f) #[] #[]:=by
  generalize a.eval x0=u at r0
  cases r0 with
  |cl _ _ cs _ h1 h2=>
   have:cs= #[]:=Array.eq_empty_of_size_eq_zero (by simpa using h1)
   rw[this]
 have hmo:Mo w (Av M h m) no w (fun g'=>Av M h m g'∧g'≠g) no:=⟨Nat.le_refl _,fun _ _ _=>rfl,fun g' e=> .inl e.1,fun _ _ e=>e⟩
 have hargs : Reps w (fun g' => Av M h m g' ∧ g' ≠ g) no #[a.eval x1, a.eval x2] [y, .sl l] := by
  refine⟨rfl,fun j x hx=> ?_,K.gl.mo hmo⟩
  match j with
  |0=>
   simp only[List.getElem?_cons_zero,Option.some.injEq]at hx
   subst hx
   exact refs_mo (p:=fun _=>false) hy (fun b hb=>by cases hb) ⟨Nat.le_refl _,fun _ _ _=>rfl,fun g e=> .inl e.1,fun _ _ e=>e⟩ r1
  | 1 =>
   simp only[List.getElem?_cons_succ,List.getElem?_cons_zero,Option.some.injEq]at hx
   subst hx
   show Rep _ _ _ (a.eval x2) _
   generalize a.eval x2=u at r2
   cases r2 with
   |bs _ _ _ _ _ g' hg'=>
    rw[e1]at hg'
    injection hg' with hg'
    injection hg' with hg'
    injection hg' with hg'
    injection hg' with hg'
    subst hg'
    subst hln
    refine .sl _ (some ⟨g,o,none⟩) g o c 1 l (fun i j=>cs.getD (o+i) undef) hnc hc (fun _=>⟨rfl,fun e=>e.2 rfl,⟨cs,U,_,e3⟩⟩) hz (fun i j q x hi hj=> ?_) (fun i j q x hi hj=> ?_)
    · have hj0:j=0:=by
       have:=(List.getElem?_eq_some_iff.1 hj).1
       rw[hz q (List.mem_of_getElem? hi)]at this
       omega
      subst hj0
      obtain⟨_,h2⟩:=hl i q x hi hj
      have h3:o+i<cs.size:=by rw[e4];exact(List.getElem?_eq_some_iff.1 h2).1
      simp[World.cell?,e3,h3]
    · have hj0:j=0:=by
       have:=(List.getElem?_eq_some_iff.1 hj).1
       rw[hz q (List.mem_of_getElem? hi)]at this
       omega
      subst hj0
      obtain⟨h1,h2⟩:=hl i q x hi hj
      have h3:=e5 _ _ h2
      cases x with
      |k v=>rw[Rep.k_inv h3];exact .k _ _
      |_=>cases h1
  |j+2=>simp at hx
 have hcall:=hp.2 w _ _ (fun g' hg=>K.av_lt hg.1) hargs
 refine .inr (.inr ⟨f, #[a.eval x1,a.eval x2], ?_,hcall.mono fun e w' he=> ?_⟩)
 · have:=hp.1 #[a.eval x1,a.eval x2] w
   simp[execOp,ho,resolve,hce,Deferred.ofValue,invoke,this]
 · obtain⟨u,rfl,h1,h2⟩:=he
   refine⟨u,rfl, ?_⟩
   have h1:Rep w' (fun g'=>Av M h m g'∧g'≠g) no u (.ag dl):=h1
   exact⟨m,K.call h2,ag_k hdl h1,.call h2,Bl.of h2 K.bs,fun b hb=> .inl hb⟩
def mkCp (ts:Array TypeId) (xs:List Operand):Op:= .call ⟨.builtin .copy, #[xs.getD 0 (.tmp 0),xs.getD 1 (.tmp 0)],ts⟩
theorem fcells (s:List UInt8) (k:Nat):(Builtin.firstCells 1 k (.string ⟨s.toArray⟩)).run P w= .ok ((s.take k).map fun c=>Value.int .u8 (c.toNat:Int)).toArray w:=by
 have:((⟨s.toArray⟩:ByteArray).extract 0 k).data=(s.take k).toArray:=by
  rw[ByteArray.data_extract]
  simp
 simp[Builtin.firstCells,this]
/-- Bytes are copied into an array in a box. -/
theorem x_cpy {ts:Array TypeId} {t t' el b o n c U k:Nat} {cells cells':List V} {s:List UInt8} (hts:ts= #[t,t']) (hd:P.underlying t=some (.slice el)) (hs:szT P el=some 1) (hk:k=min s.length n) (hn:o+n≤cells.length) (hlen:cells'.length=cells.length)
 (hc:∀ j,j<cells.length→cells'[j]? =if o≤j∧j<o+k then some (.k (.int .u8 ((s.getD (j - o) 0).toNat:Int)))else cells[j]?):Ext P (mkCp ts) [.bs b o n c,.k (.string ⟨s.toArray⟩)] [(b,.bx U cells)] [(b,.bx U cells')] (ni (k:Int)):=by
 subst hts
 intro B M h m w a op xs ho K hl hr hrd _
 obtain⟨x,y,rfl⟩:=ops2 hl
 have hx:=hr 0 x _ rfl rfl
 have hy:=Rep.k_inv (hr 1 y _ rfl rfl)
 have hb:h b= .bx U cells:=hrd (b,.bx U cells) (List.mem_singleton.2 rfl)
 obtain⟨g,cs,h1,h2,h3,h4,h5⟩:=K.bx b U cells hb
 simp only[mkCp,List.getD_cons_zero,List.getD_cons_succ]at ho
 have hsz:(P.info? el).map (·.size)=some 1:=by unfold szT at hs;exact hs
 generalize hu:a.eval x=u at hx
 cases hx with
 | bs _ _ _ _ _ g' hg =>
  rw[h1]at hg
  injection hg with hg
  injection hg with hg
  injection hg with hg
  injection hg with hg
  subst hg
  have hkl:k≤s.length:=by omega
  let news:List Value:=(s.take k).map fun c=>Value.int .u8 (c.toNat:Int)
  have hnl:news.length=k:=by simp only[news,List.length_map,List.length_take];omega
  obtain⟨w',cs',q1,q2,q3,q4,q5,q6,q7⟩:=run_storeCells (P:=P) (g:=g) (o:=o) (T:=U) news 0 w cs (fun v hv=>by
   obtain⟨c,_,rfl⟩:=List.mem_map.1 hv
   rfl) h3 (by rw[hnl,Nat.add_zero,h4];omega)
  have hown:(h b).own=true:=by rw[hb];rfl
  obtain⟨t1,t2⟩:=K.turn (x:= .bx U cells') (u:= .pointer (some ⟨g,0,none⟩)) (g:=g) hown h1 rfl q2 (fun T' l' e=>by
   injection e with e1 e2
   subst e1;subst e2
   refine⟨cs',rfl,q3,by rw[q4,h4,hlen],fun j y hy=> ?_⟩
   have hjl:j<cells.length:=by rw[←hlen];exact(List.getElem?_eq_some_iff.1 hy).1
   rw[hc j hjl]at hy
   split at hy
   · rename_i hj
     have h6:=q7 (j - o) (by rw[hnl];omega)
     rw[show o+0+(j - o)=j by omega]at h6
     rw[h6]
     injection hy with hy
     subst hy
     have h7:news.getD (j - o) undef=Value.int .u8 ((s.getD (j - o) 0).toNat:Int):=by
      simp only[news,List.getD_eq_getElem?_getD,List.getElem?_map,List.getElem?_take,if_pos (show j - o<k by omega)]
      rw[List.getElem?_eq_getElem (by omega)]
      rfl
     rw[h7]
     exact .k _ _
   · rename_i hj
     have h6:cs'.getD j undef=cs.getD j undef:=by
      rcases Nat.lt_or_ge j o with h7|h7
      · exact q5 j (by omega)
      · exact q6 j (by rw[hnl];omega)
     rw[h6]
     exact h5 j y hy) (fun _ _ _ e=>by cases e) rfl
  refine Exec.val (u:= .int .i64 (k:Int)) (w':=w') ?_ ⟨m,t1,.k _ _,t2,q2.below h2,fun c hc=> .inl hc⟩
  have hlo:(Builtin.copy_ #[t,t'] op.type #[a.eval x,a.eval y]).run P w= .ok (.int .i64 (k:Int)) w':=by
   have hmin:Nat.min (⟨s.toArray⟩:ByteArray).size n=k:=by rw[hk];rfl
   have q1':=q1
   simp only[news,List.map_take]at q1'
   simp[Builtin.copy_,hu,hy,run_under hd,run_size hs,Builtin.lenOf,hmin,fcells,q1',goInt]
  simp[execOp,ho,resolve,invoke,builtin,hlo]
end
end Go.Proofs.YtfdfbenejkmnlaaGreatDoor.E
