/-
 SHA: a stream to which a text is added.
-/
import Derived.Test.YtfdfbenejkmnlaaGreatDoorShE
namespace Go.Proofs.YtfdfbenejkmnlaaGreatDoor.E.Hs
open Go.RowKit Shw
set_option linter.unusedVariables false
set_option linter.unusedSimpArgs false
def wv (x:Wd):V:= .k (.int .u32 (wi x))
def bv (c:UInt8):V:= .k (.int .u8 (c.toNat:Int))
def uv (n:Nat):V:= .k (.int .u64 (n:Int))
def sV (t:List UInt8):V:= .k (.string ⟨t.toArray⟩)
def st8 (s:S8):List V:=[wv s.a,wv s.b,wv s.c,wv s.d,wv s.e,wv s.f,wv s.g,wv s.h]
def bl64 (b:List UInt8):List V:=(List.range 64).map fun i=>bv (b.getD i 0)
def strm (s:S8) (b:List UInt8) (n:Nat):List V:=st8 s++(bl64 b++[uv n])
section
variable {K:List Wd} {s iv:S8} {m t b blk:List UInt8} {n k a i j:Nat}
theorem getD_lt {α:Type} {l:List α} {d:α} (h:i<l.length):l[i]? =some (l.getD i d):=by
 rw[List.getD_eq_getElem?_getD,List.getElem?_eq_getElem h];rfl
theorem bl64_len:(bl64 b).length=64:=by unfold bl64;simp
theorem strm_len:(strm s b n).length=73:=by unfold strm;simp[bl64_len,st8]
theorem bl64_at (h:i<64):(bl64 b)[i]? =some (bv (b.getD i 0)):=by
 unfold bl64
 rw[List.getElem?_map,List.getElem?_range h];rfl
theorem strm_at (h:i<64):(strm s b n)[8+i]? =some (bv (b.getD i 0)):=by
 unfold strm
 rw[List.getElem?_append_right (by simp[st8]),show 8+i - (st8 s).length=i by simp[st8],List.getElem?_append_left (by rw[bl64_len];exact h),bl64_at h]
theorem strm_ne (h:¬(8≤j∧j<72)):(strm s b n)[j]? =(strm s blk n)[j]? :=by
 unfold strm
 by_cases g:j<8
 · rw[List.getElem?_append_left (by simpa[st8]using g),List.getElem?_append_left (by simpa[st8]using g)]
 · have hl:(st8 s).length=8:=rfl
   have h1:(bl64 b).length=64:=bl64_len
   have h2:(bl64 blk).length=64:=bl64_len
   have g1:(st8 s).length≤j:=by omega
   have g2:(bl64 b).length≤j - (st8 s).length:=by omega
   have g3:(bl64 blk).length≤j - (st8 s).length:=by omega
   rw[List.getElem?_append_right g1,List.getElem?_append_right g1,List.getElem?_append_right g2,List.getElem?_append_right g3,h1,h2]
theorem blkU_at (h:blk.length=64) (hk:k≤t.length) (ha:a+k≤64) (hi:i<64):(blkU blk a k t).getD i 0=if a≤i∧i<a+k then t.getD (i - a) 0 else blk.getD i 0:=by
 unfold blkU
 simp only[List.getD_eq_getElem?_getD]
 by_cases h1:i<a
 · rw[if_neg (by omega),List.getElem?_append_left (by rw[List.length_take];omega),List.getElem?_take,if_pos h1]
 · rw[List.getElem?_append_right (by rw[List.length_take];omega),List.length_take,Nat.min_eq_left (by omega)]
   by_cases h2:i<a+k
   · rw[if_pos ⟨by omega,h2⟩,List.getElem?_append_left (by rw[List.length_take];omega),List.getElem?_take,if_pos (by omega)]
   · rw[if_neg (by omega),List.getElem?_append_right (by rw[List.length_take];omega),List.length_take,Nat.min_eq_left hk,List.getElem?_drop,show a+k+(i - a - k)=i by omega]
theorem strm_cpy (h:blk.length=64) (hk:k≤t.length) (ha:a+k≤64) (j:Nat) (hj:j<(strm s blk n).length):(strm s (blkU blk a k t) n)[j]? =if 8+a≤j∧j<8+a+k then some (.k (.int .u8 ((t.getD (j - (8+a)) 0).toNat:Int)))else(strm s blk n)[j]? :=by
 rw[strm_len]at hj
 by_cases g:8≤j∧j<72
 · obtain⟨i,rfl⟩:∃ i,j=8+i:=⟨j - 8,by omega⟩
   rw[strm_at (by omega),strm_at (by omega),blkU_at h hk ha (by omega)]
   by_cases e:a≤i∧i<a+k
   · rw[if_pos e,if_pos (by omega),show 8+i - (8+a)=i - a by omega];rfl
   · rw[if_neg e,if_neg (by omega)]
 · rw[if_neg (by omega),strm_ne g]
/-- A stream and what is still to be added. -/
structure SU where
 st:S8
 blk:List UInt8
 n:Nat
 t:List UInt8
def SU.kk (q:SU):Nat:=min q.t.length (64 - q.n % 64)
def SU.bb (q:SU):List UInt8:=blkU q.blk (q.n % 64) q.kk q.t
def SU.step (K:List Wd) (q:SU):SU:=⟨if q.n % 64+q.kk=64 then q.st.block K q.bb else q.st,q.bb,q.n+q.kk,q.t.drop q.kk⟩
def SU.it (K:List Wd) (q:SU):Nat→SU
 |0=>q
 |i+1=>(SU.it K q i).step K
theorem SU.inv {q:SU} (H:Str K iv m q.st q.blk) (hn:q.n=m.length):∀ i,∃ c,c≤q.t.length∧(q.it K i).n=m.length+c∧(q.it K i).t=q.t.drop c∧Str K iv (m++q.t.take c) (q.it K i).st (q.it K i).blk∧(i≤c∨c=q.t.length)
 |0=>⟨0,Nat.zero_le _,hn,by simp[SU.it],by simpa[SU.it]using H,.inl (Nat.le_refl _)⟩
 | i + 1 => by
  obtain⟨c,h1,h2,h3,h4,h5⟩:=SU.inv H hn i
  show∃ c,_∧((q.it K i).step K).n=_∧((q.it K i).step K).t=_∧Str K iv _ ((q.it K i).step K).st ((q.it K i).step K).blk∧_
  generalize q.it K i=r at*
  obtain⟨st,bl,n,t⟩:=r
  simp only at h2 h3 h4
  subst h2;subst h3
  have hml:(m++q.t.take c).length=m.length+c:=by rw[List.length_append,List.length_take];omega
  have hdl:(q.t.drop c).length=q.t.length - c:=List.length_drop
  have htk:∀ k,m++q.t.take c++(q.t.drop c).take k=m++q.t.take (c+k):=fun k=>by rw[List.append_assoc,←List.take_add]
  by_cases g:c=q.t.length
  · have hd:q.t.drop c=[]:=List.drop_of_length_le (by omega)
    have hk:(SU.mk st bl (m.length+c) (q.t.drop c)).kk=0:=by simp[SU.kk,hdl,g]
    have hlt:(m.length+c) % 64<64:=Nat.mod_lt _ (by decide)
    have hb:(SU.mk st bl (m.length+c) (q.t.drop c)).bb=bl:=by
     unfold SU.bb
     rw[hk]
     unfold blkU
     simp
    refine⟨c,h1,by simp[SU.step,hk],by simp[SU.step,hk], ?_,.inr g⟩
    have hst:((SU.mk st bl (m.length+c) (q.t.drop c)).step K).st=st:=by
     unfold SU.step
     rw[hk]
     exact if_neg (by show¬((m.length+c) % 64+0=64);omega)
    rw[hst]
    show Str K iv _ st (SU.mk st bl (m.length+c) (q.t.drop c)).bb
    rw[hb]
    exact h4
  · have hi:i≤c:=h5.elim id fun e=>absurd e g
    generalize hk:(SU.mk st bl (m.length+c) (q.t.drop c)).kk=k
    have hk2:k=min (q.t.length - c) (64 - (m.length+c) % 64):=by rw[←hk,←hdl];rfl
    have hlt:(m.length+c) % 64<64:=Nat.mod_lt _ (by decide)
    have hb:(SU.mk st bl (m.length+c) (q.t.drop c)).bb=blkU bl ((m++q.t.take c).length % 64) k (q.t.drop c):=by
     unfold SU.bb
     rw[hk,hml]
    refine⟨c+k,by omega,by simp[SU.step,hk,Nat.add_assoc],by simp[SU.step,hk,List.drop_drop], ?_,.inl (by omega)⟩
    rw[←htk]
    by_cases f:(m.length+c) % 64+k=64
    · have hst:((SU.mk st bl (m.length+c) (q.t.drop c)).step K).st=st.block K (blkU bl ((m++q.t.take c).length % 64) k (q.t.drop c)):=by
       rw[←hb]
       unfold SU.step
       rw[hk]
       exact if_pos f
      rw[hst]
      show Str K iv _ _ (SU.mk st bl (m.length+c) (q.t.drop c)).bb
      rw[hb]
      exact h4.full (by rw[hml];exact f) (by omega)
    · have hst:((SU.mk st bl (m.length+c) (q.t.drop c)).step K).st=st:=by
       unfold SU.step
       rw[hk]
       exact if_neg f
      rw[hst]
      show Str K iv _ _ (SU.mk st bl (m.length+c) (q.t.drop c)).bb
      rw[hb]
      exact h4.part (by rw[hml];omega) (by omega)
theorem SU.fin {q:SU} (H:Str K iv m q.st q.blk) (hn:q.n=m.length):(q.it K q.t.length).n=m.length+q.t.length∧(q.it K q.t.length).t=[]∧Str K iv (m++q.t) (q.it K q.t.length).st (q.it K q.t.length).blk:=by
 obtain⟨c,h1,h2,h3,h4,h5⟩:=SU.inv H hn q.t.length
 have hc:c=q.t.length:=by omega
 subst hc
 rw[List.drop_length]at h3
 rw[List.take_length]at h4
 exact⟨h2,h3,h4⟩
/-- Once nothing is to be added, nothing changes. -/
theorem SU.stay {q:SU} (hq:q.t=[]) (hb:q.blk.length=64):q.step K=q:=by
 obtain⟨st,bl,n,t⟩:=q
 simp only at hq hb
 subst hq
 have hlt:n % 64<64:=Nat.mod_lt _ (by decide)
 have hk:(SU.mk st bl n []).kk=0:=by simp[SU.kk]
 unfold SU.step
 have hbb:(SU.mk st bl n []).bb=bl:=by
  unfold SU.bb
  rw[hk]
  unfold blkU
  simp
 rw[hk,hbb,if_neg (by show¬(n % 64+0=64);omega)]
 rfl
theorem SU.same {q:SU} (hq:(q.it K i).t=[]) (hb:(q.it K i).blk.length=64):∀ j,q.it K (i+j)=q.it K i
 |0=>rfl
 |j+1=>by
  show(q.it K (i+j)).step K=_
  rw[SU.same hq hb j,SU.stay hq hb]
end
end Go.Proofs.YtfdfbenejkmnlaaGreatDoor.E.Hs
namespace Go.Proofs.YtfdfbenejkmnlaaGreatDoor.E.Hs
open Go.RowKit Shw
set_option linter.unusedVariables false
set_option linter.unusedSimpArgs false
section
variable {x y:Wd} {n i j k:Nat}
theorem neg_and (h:0<n∧n<32):bits .and .u64 (IntKind.u64.wrap (-(n:Int))) 31=((32 - n:Nat):Int):=by
 have hw:IntKind.u64.wrap (-(n:Int))=((18446744073709551616 - n:Nat):Int):=by
  rw[IntKind.wrap_u64]
  omega
 rw[hw,show(31:Int)=((31:Nat):Int)from rfl,u64_and_nat _ _ (by omega) (by omega),Nat.and_two_pow_sub_one_eq_mod _ 5]
 congr 1
 omega
theorem shl_v (h:n<32):IntKind.u32.wrap (wi x*2 ^ (min ((n:Int)).toNat IntKind.u32.bits))=wi (x <<< n):=by
 rw[Int.toNat_natCast,show IntKind.u32.bits=32 from rfl,Nat.min_eq_left (by omega),w_shl]
theorem shr_v (h:n<32):(wi x).fdiv (2 ^ (min ((n:Int)).toNat IntKind.u32.bits))=wi (x >>> n):=by
 rw[Int.toNat_natCast,show IntKind.u32.bits=32 from rfl,Nat.min_eq_left (by omega),w_shr]
theorem e_rotl (x:Wd) (n:Nat) (h:0<n∧n<32):Pure PP 197 [wv x,ni (-(n:Int))] (wv (rr n x)):=by
 have h1:V.k (.int .u64 (bits .and .u64 (IntKind.u64.wrap (-(n:Int))) 31))=uv (32 - n):=by rw[neg_and h];rfl
 have h2:V.k (.int .u32 (IntKind.u32.wrap (wi x*2 ^ (min (((32 - n:Nat):Int)).toNat IntKind.u32.bits))))=wv (x <<< (32 - n)):=by rw[shl_v (by omega)];rfl
 have h3:V.k (.int .u64 (IntKind.u64.wrap (32 - ((32 - n:Nat):Int))))=uv n:=by
  rw[IntKind.wrap_u64,show(32 - ((32 - n:Nat):Int)) % 18446744073709551616=(n:Int)by omega];rfl
 have h4:V.k (.int .u32 ((wi x).fdiv (2 ^ (min ((n:Int)).toNat IntKind.u32.bits))))=wv (x >>> n):=by rw[shr_v (by omega)];rfl
 have h5:V.k (.int .u32 (bits .or .u32 (wi (x <<< (32 - n))) (wi (x >>> n))))=wv (rr n x):=by rw[w_or,rr_l];rfl
 exact tr [.eqv 8 _ _ h1,.eqv 11 _ _ h2,.eqv 14 _ _ h3,.eqv 15 _ _ h4,.eqv 16 _ _ h5] (by kernel_rfl)
theorem neg_v (h:n<64):ni (IntKind.i64.wrap (0 - (n:Int)))=ni (-(n:Int)):=by
 rw[IntKind.wrap_i64,show(0 - (n:Int)+9223372036854775808) % 18446744073709551616 - 9223372036854775808= -(n:Int)by omega]
theorem xor_v (x y:Wd):V.k (.int .u32 (bits .xor .u32 (wi x) (wi y)))=wv (x ^^^ y):=by rw[w_xor];rfl
noncomputable def fx (t:Nat) (x y:Wd):F_:= .eqv t _ _ (xor_v x y)
theorem e_mix (x:Wd) (i j k:Nat) (hi:0<i∧i<32) (hj:0<j∧j<32) (hk:0<k∧k<32):Pure PP 192 [wv x,ni (i:Int),ni (j:Int),ni (k:Int)] (wv (rr i x ^^^ rr j x ^^^ rr k x)):=
 tr [.eqv 11 _ _ (neg_v (n:=i) (by omega)),cl (e_rotl x i hi),.eqv 15 _ _ (neg_v (n:=j) (by omega)),cl (e_rotl x j hj),fx 17 (rr i x) (rr j x),.eqv 20 _ _ (neg_v (n:=k) (by omega)),cl (e_rotl x k hk),fx 22 (rr i x ^^^ rr j x) (rr k x)] (by kernel_rfl)
end
end Go.Proofs.YtfdfbenejkmnlaaGreatDoor.E.Hs
namespace Go.Proofs.YtfdfbenejkmnlaaGreatDoor.E.Hs
open Go.RowKit Shw
set_option linter.unusedVariables false
set_option linter.unusedSimpArgs false
def w64 (W:Nat→Wd):List V:=(List.range 64).map fun i=>wv (W i)
def wU (b:List UInt8) (i:Nat):Wd:=(wordsU b 64).getD i 0
section
variable {B b:List UInt8} {W:Nat→Wd} {x y z u:Wd} {n i j t:Nat}
theorem w64_len:(w64 W).length=64:=by unfold w64;simp
theorem w64_at (h:i<64):(w64 W)[i]? =some (wv (W i)):=by
 unfold w64
 rw[List.getElem?_map,List.getElem?_range h];rfl
theorem w64_set (W':Nat→Wd) (v:Wd) (h1:W' t=v) (h2:∀ i,i≠t→W' i=W i):(w64 W).set t (wv v)=w64 W':=by
 apply List.ext_getElem?
 intro i
 rw[List.getElem?_set,w64_len]
 by_cases e:t=i
 · subst e
   rw[if_pos rfl]
   by_cases g:t<64
   · rw[if_pos g,w64_at g,h1]
   · rw[if_neg g,List.getElem?_eq_none (by rw[w64_len];omega)]
 · rw[if_neg e]
   by_cases g:i<64
   · rw[w64_at g,w64_at g,h2 i fun q=>e q.symm]
   · rw[List.getElem?_eq_none (by rw[w64_len];omega),List.getElem?_eq_none (by rw[w64_len];omega)]
theorem gd_app {l r:List Wd} (h:i<l.length):(l++r).getD i 0=l.getD i 0:=by
 rw[List.getD_eq_getElem?_getD,List.getElem?_append_left h,List.getD_eq_getElem?_getD]
theorem gd_end {l:List Wd}:(l++[x]).getD l.length 0=x:=by
 rw[List.getD_eq_getElem?_getD,List.getElem?_append_right (Nat.le_refl _),Nat.sub_self];rfl
theorem words_pre (b:List UInt8) (h:i<t):∀ d,(wordsU b (t+d)).getD i 0=(wordsU b t).getD i 0
 |0=>rfl
 |d+1=>by
  show((wordsU b (t+d))++[_]).getD i 0=_
  rw[gd_app (by rw[wordsU_len];omega),words_pre b h d]
theorem words_at (b:List UInt8) (h:i<t) (ht:t≤64):(wordsU b t).getD i 0=wU b i:=by
 obtain⟨d,hd⟩:∃ d,64=t+d:=⟨64 - t,by omega⟩
 unfold wU
 rw[hd,words_pre b h d]
theorem wU_eq (b:List UInt8) (h:t<64):wU b t=if t<16 then bw (b.getD (4*t) 0) (b.getD (4*t+1) 0) (b.getD (4*t+2) 0) (b.getD (4*t+3) 0)else(wordsU b t).getD (t - 16) 0+ss0 ((wordsU b t).getD (t - 15) 0)+(wordsU b t).getD (t - 7) 0+ss1 ((wordsU b t).getD (t - 2) 0):=by
 rw[←words_at b (Nat.lt_succ_self t) (by omega)]
 have e:∀ x,((wordsU b t)++[x]).getD t 0=x:=fun x=>by
  have:=gd_end (l:=wordsU b t) (x:=x)
  rwa [wordsU_len]at this
 exact e _
theorem wU_lo (b:List UInt8) (h:t<16):wU b t=bw (b.getD (4*t) 0) (b.getD (4*t+1) 0) (b.getD (4*t+2) 0) (b.getD (4*t+3) 0):=by
 rw[wU_eq b (by omega),if_pos h]
theorem wU_hi (b:List UInt8) (h:16≤t∧t<64):wU b t=wU b (t - 16)+ss0 (wU b (t - 15))+wU b (t - 7)+ss1 (wU b (t - 2)):=by
 rw[wU_eq b h.2,if_neg (by omega),words_at b (by omega) (by omega),words_at b (by omega) (by omega),words_at b (by omega) (by omega),words_at b (by omega) (by omega)]
/-- So many words are there; the next one is being made. -/
def wS (b:List UInt8) (t:Nat) (x:Wd) (i:Nat):Wd:=if i<t then wU b i else if i=t then x else 0
theorem wS_lt (h:i<t):wS b t x i=wU b i:=if_pos h
theorem wS_eq:wS b t x t=x:=by unfold wS;rw[if_neg (Nat.lt_irrefl _),if_pos rfl]
theorem wS_set (y:Wd):(w64 (wS b t x)).set t (wv y)=w64 (wS b t y):=w64_set _ _ wS_eq fun i h=>by
 unfold wS
 rw[if_neg h]
 by_cases g:i<t
 · rw[if_pos g,if_pos g]
 · rw[if_neg g,if_neg g,if_neg h]
theorem wS_next:w64 (wS b t (wU b t))=w64 (wS b (t+1) 0):=by
 unfold w64
 refine List.map_congr_left fun i _=>congrArg wv ?_
 unfold wS
 by_cases g:i<t
 · rw[if_pos g,if_pos (by omega)]
 · by_cases e:i=t
   · subst e;rw[if_neg g,if_pos rfl,if_pos (by omega)]
   · rw[if_neg g,if_neg e,if_neg (by omega)]
     split<;>rfl
theorem add_v (x y:Wd):V.k (.int .u32 (IntKind.u32.wrap (wi x+wi y)))=wv (x+y):=by rw[w_add];rfl
theorem or_v (x y:Wd):V.k (.int .u32 (bits .or .u32 (wi x) (wi y)))=wv (x ||| y):=by rw[w_or];rfl
noncomputable def fa (t:Nat) (x y:Wd):F_:= .eqv t _ _ (add_v x y)
noncomputable def fo (t:Nat) (x y:Wd):F_:= .eqv t _ _ (or_v x y)
theorem u8_v (c:UInt8):V.k (.int .u32 (IntKind.u32.wrap (c.toNat:Int)))=wv (BitVec.ofNat 32 c.toNat):=by
 have h:c.toNat<256:=c.toNat_lt
 unfold wv wi
 rw[IntKind.wrap_u32',BitVec.toNat_ofNat,Nat.mod_eq_of_lt (by omega)]
 congr 2
 omega
theorem shl_k (h:n<32):V.k (.int .u32 (IntKind.u32.wrap (wi x*2 ^ n)))=wv (x <<< n):=by rw[w_shl];rfl
theorem shr_k (h:n<32):V.k (.int .u32 ((wi x).fdiv (2 ^ n)))=wv (x >>> n):=by rw[w_shr];rfl
theorem sub_i (h:j≤i) (hi:i<1000000):ni (IntKind.i64.wrap ((i:Int) - (j:Int)))=ni ((i - j:Nat):Int):=by
 rw[IntKind.wrap_i64,show((i:Int) - (j:Int)+9223372036854775808) % 18446744073709551616 - 9223372036854775808=((i - j:Nat):Int)by omega]
theorem mul_i (hi:i<1000000) (hj:j<1000000):ni (IntKind.i64.wrap ((j:Int)*(i:Int)))=ni ((j*i:Nat):Int):=by
 have:j*i<1000000*1000000:=Nat.mul_lt_mul'' hj hi
 rw[IntKind.wrap_i64,←Int.natCast_mul,show(((j*i:Nat):Int)+9223372036854775808) % 18446744073709551616 - 9223372036854775808=((j*i:Nat):Int)by omega]
theorem add_i (hi:i<1000000000000) (hj:j<1000000000000):ni (IntKind.i64.wrap ((i:Int)+(j:Int)))=ni ((i+j:Nat):Int):=by
 rw[IntKind.wrap_i64,show((i:Int)+(j:Int)+9223372036854775808) % 18446744073709551616 - 9223372036854775808=((i+j:Nat):Int)by omega]
theorem byL_four (h:4*t+4≤B.length):((byL B).take (4*t+4)).drop (4*t)=[[bv (B.getD (4*t) 0)],[bv (B.getD (4*t+1) 0)],[bv (B.getD (4*t+2) 0)],[bv (B.getD (4*t+3) 0)]]:=by
 unfold byL
 apply List.ext_getElem?
 intro i
 rw[List.getElem?_drop,List.getElem?_take]
 match i with
 |0=>rw[if_pos (by omega),List.getElem?_map,getD_lt (d:=0) (show 4*t+0<B.length by omega)];rfl
 |1=>rw[if_pos (by omega),List.getElem?_map,getD_lt (d:=0) (show 4*t+1<B.length by omega)];rfl
 |2=>rw[if_pos (by omega),List.getElem?_map,getD_lt (d:=0) (show 4*t+2<B.length by omega)];rfl
 |3=>rw[if_pos (by omega),List.getElem?_map,getD_lt (d:=0) (show 4*t+3<B.length by omega)];rfl
 |i+4=>rw[if_neg (by omega)];rfl
noncomputable abbrev fSc:Func:=fnOf PP 191
abbrev T64:Nat:= 217
abbrev T32:Nat:= 161
theorem a64 (h:t<64) (b:Nat):Ext PP (mkIa T64) [.lp b 0,ni (t:Int)] [] [] (.lp b (0+t*1)):=x_ia (n:=64) (e:=T32) (by kernel_rfl) (by kernel_rfl) h
theorem l64 {l:List V} {d:Wd} (b:Nat) (h:l[t]? =some (wv d)):Ext PP (mkLd T32) [.lp b (0+t*1)] [(b,.bx T64 l)] [] (wv d):=x_ld (by kernel_rfl) (by rw[Nat.zero_add,Nat.mul_one];exact h)
theorem s64 {l l':List V} {d:Wd} (b:Nat) (h:t<l.length) (h2:l.set t (wv d)=l'):Ext PP (mkSt T32) [.lp b (0+t*1),wv d] [(b,.bx T64 l)] [(b,.bx T64 l')] .un:=x_st (by kernel_rfl) rfl rfl (by omega) (by rw[Nat.zero_add,Nat.mul_one];exact h2)
theorem ldS (b:Nat) (h:i<t) (g:i<64):Ext PP (mkLd T32) [.lp b (0+i*1)] [(b,.bx T64 (w64 (wS B t x)))] [] (wv (wU B i)):=l64 b (by rw[w64_at g,wS_lt h])
theorem ldE (b:Nat) (g:t<64):Ext PP (mkLd T32) [.lp b (0+t*1)] [(b,.bx T64 (w64 (wS B t x)))] [] (wv x):=l64 b (by rw[w64_at g,wS_eq])
theorem stS (b:Nat) (g:t<64) (y:Wd):Ext PP (mkSt T32) [.lp b (0+t*1),wv y] [(b,.bx T64 (w64 (wS B t x)))] [(b,.bx T64 (w64 (wS B t y)))] .un:=s64 b (by rw[w64_len];exact g) (wS_set y)
noncomputable def scX (B:List UInt8) (t:Nat):St:=at_ fSc [(0,.sl (byL B)),(2,.lp 0 0),(3,.lp 1 0),(11,ni (t:Int))] [.bx T64 (w64 (wS B 0 0)),.bx T64 (w64 (wS B t 0))]
def four (B:List UInt8) (t:Nat):List (List V):=[[bv (B.getD (4*t) 0)],[bv (B.getD (4*t+1) 0)],[bv (B.getD (4*t+2) 0)],[bv (B.getD (4*t+3) 0)]]
noncomputable def scY (B:List UInt8) (t j:Nat) (x:Wd):St:=at_ fSc [(0,.sl (byL B)),(2,.lp 0 0),(3,.lp 1 0),(4,ni (t:Int)),(11,ni (t:Int)),(22,.sl (four B t)),(23,ni 4),(24,ni (j:Int))] [.bx T64 (w64 (wS B 0 0)),.bx T64 (w64 (wS B t x))]
end
end Go.Proofs.YtfdfbenejkmnlaaGreatDoor.E.Hs
namespace Go.Proofs.YtfdfbenejkmnlaaGreatDoor.E.Hs
open Go.RowKit Shw
set_option linter.unusedVariables false
set_option linter.unusedSimpArgs false
section
variable {B b:List UInt8} {W:Nat→Wd} {x y z u:Wd} {n i j t:Nat}
theorem e_sched (B:List UInt8) (hB:B.length=64):Pure PP 191 [.sl (byL B)] (.ag (w64 (wS B 64 0))):=by
 refine pf (by kernel_rfl) (.to mo_ [] [0,2,3,11] [0,1] 2 [] (td':=lp fSc 0) (σ':=scX B 0) ?_ (by kernel_rfl))
 refine Gd.loop (scX B) (fun t=>t≤64) (fun t=>64 - t) ?_ 0 (Nat.zero_le _)
 intro t ht ih
 by_cases g:t<64
 · by_cases g2:t<16
   · have hz:∀ cs∈byL B,cs.length=1:=fun cs h=>by
      obtain⟨c,_,rfl⟩:=List.mem_map.1 h
      rfl
     have hbl:(byL B).length=64:=by unfold byL;rw[List.length_map,hB]
     refine .to mo_ [] [0,2,3,4,11,22,23,24] [0,1] 2 [ye (t:=decide ((t:Int)<64)) (decide_eq_true (by omega)),ye (t:=decide ((t:Int)<16)) (decide_eq_true (by omega)),.eqv 18 _ _ (mul_i (i:=t) (j:=4) (by omega) (by omega)),.eqv 20 _ _ (mul_i (i:=t) (j:=4) (by omega) (by omega)),.eqv 21 _ _ (add_i (i:=4*t) (j:=4) (by omega) (by omega)),.slc (byL B) (4*t) (4*t+4) 1 (four B t) (byL_four (by omega)) (by omega) hz] (td':=lp fSc 1) (σ':=scY B t 0 0) ?_ (by kernel_rfl)
     have step:∀ (j:Nat) (c:UInt8) (x:Wd) (h:(four B t)[j]? =some [bv c]) (hj:j<4),Gd PP 191 (.ag (w64 (wS B 64 0))) (lp fSc 1) (scY B t (j+1) ((x <<< 8) ||| BitVec.ofNat 32 c.toNat))→Gd PP 191 (.ag (w64 (wS B 64 0))) (lp fSc 1) (scY B t j x):=fun j c x h hj k=>
      .to mo_ [] [0,2,3,4,11,22,23,24] [0,1] 2 [ye (t:=decide ((j:Int)<4)) (decide_eq_true (by omega)),.sel _ _ _ h,.ext (some 30) _ _ _ _ _ (a64 g 1),.ext (some 31) _ _ _ _ _ (ldE (B:=B) (x:=x) 1 g),.eqv 32 _ _ (shl_k (x:=x) (n:=8) (by omega)),.eqv 34 _ _ (u8_v c),fo 35 (x <<< 8) (BitVec.ofNat 32 c.toNat),.ext (some 36) _ _ _ _ _ (a64 g 1),.ext none _ _ _ _ _ (stS (B:=B) (x:=x) 1 g ((x <<< 8) ||| BitVec.ofNat 32 c.toNat)),inc 37 j (by omega)] k (by kernel_rfl)
     refine step 0 _ _ rfl (by omega) (step 1 _ _ rfl (by omega) (step 2 _ _ rfl (by omega) (step 3 _ _ rfl (by omega) ?_)))
     have e:((((((((0:Wd) <<< 8) ||| BitVec.ofNat 32 (B.getD (4*t) 0).toNat) <<< 8) ||| BitVec.ofNat 32 (B.getD (4*t+1) 0).toNat) <<< 8) ||| BitVec.ofNat 32 (B.getD (4*t+2) 0).toNat) <<< 8) ||| BitVec.ofNat 32 (B.getD (4*t+3) 0).toNat=wU B t:=by
      rw[wU_lo B g2]
      exact or_fold _ _ _ _
     rw[e]
     have nx:=ih (t+1) g (by omega)
     unfold scX at nx
     rw[←wS_next (b:=B) (t:=t)]at nx
     exact .to mo_ [] [0,2,3,11] [0,1] 2 [na (t:=decide (((4:Nat):Int)<4)) (decide_eq_false (by omega)),inc 77 t (by omega)] nx (by kernel_rfl)
   · have nx:=ih (t+1) g (by omega)
     unfold scX at nx
     rw[←wS_next (b:=B) (t:=t)]at nx
     have h1:t - 15<64:=by omega
     have h2:t - 2<64:=by omega
     have h3:t - 16<64:=by omega
     have h4:t - 7<64:=by omega
     have qh1:t - 15<t:=by omega
     have qh2:t - 2<t:=by omega
     have qh3:t - 16<t:=by omega
     have qh4:t - 7<t:=by omega
     have z1:=sub_i (i:=t) (j:=15) (by omega) (by omega)
     have z2:=sub_i (i:=t) (j:=2) (by omega) (by omega)
     have z3:=sub_i (i:=t) (j:=16) (by omega) (by omega)
     have z4:=sub_i (i:=t) (j:=7) (by omega) (by omega)
     have s0:V.k (.int .u32 (bits .xor .u32 (wi (rr 7 (wU B (t - 15)) ^^^ rr 18 (wU B (t - 15)))) (wi (wU B (t - 15) >>> 3))))=wv (ss0 (wU B (t - 15))):=xor_v _ _
     have s1:V.k (.int .u32 (bits .xor .u32 (wi (rr 17 (wU B (t - 2)) ^^^ rr 19 (wU B (t - 2)))) (wi (wU B (t - 2) >>> 10))))=wv (ss1 (wU B (t - 2))):=xor_v _ _
     have s2:V.k (.int .u32 (IntKind.u32.wrap (wi (wU B (t - 16)+ss0 (wU B (t - 15))+wU B (t - 7))+wi (ss1 (wU B (t - 2))))))=wv (wU B t):=by rw[wU_hi (t:=t) B (by omega)];exact add_v _ _
     exact .to mo_ [] [0,2,3,11] [0,1] 2 [ye (t:=decide ((t:Int)<64)) (decide_eq_true (by omega)),na (t:=decide ((t:Int)<16)) (decide_eq_false (by omega)),
      .eqv 39 _ _ z1,.ext (some 40) _ _ _ _ _ (a64 h1 1),.ext (some 41) _ _ _ _ _ (ldS (B:=B) (t:=t) (x:=0) 1 (qh1) h1),
      .eqv 43 _ _ z2,.ext (some 44) _ _ _ _ _ (a64 h2 1),.ext (some 45) _ _ _ _ _ (ldS (B:=B) (t:=t) (x:=0) 1 (qh2) h2),
      cl (e_rotl (wU B (t - 15)) 7 (by omega)),cl (e_rotl (wU B (t - 15)) 18 (by omega)),fx 50 (rr 7 (wU B (t - 15))) (rr 18 (wU B (t - 15))),.eqv 52 _ _ (shr_k (x:=wU B (t - 15)) (n:=3) (by omega)),.eqv 53 _ _ s0,
      cl (e_rotl (wU B (t - 2)) 17 (by omega)),cl (e_rotl (wU B (t - 2)) 19 (by omega)),fx 58 (rr 17 (wU B (t - 2))) (rr 19 (wU B (t - 2))),.eqv 60 _ _ (shr_k (x:=wU B (t - 2)) (n:=10) (by omega)),.eqv 61 _ _ s1,
      .eqv 64 _ _ z3,.ext (some 65) _ _ _ _ _ (a64 h3 1),.ext (some 66) _ _ _ _ _ (ldS (B:=B) (t:=t) (x:=0) 1 (qh3) h3),fa 68 (wU B (t - 16)) (ss0 (wU B (t - 15))),
      .eqv 70 _ _ z4,.ext (some 71) _ _ _ _ _ (a64 h4 1),.ext (some 72) _ _ _ _ _ (ldS (B:=B) (t:=t) (x:=0) 1 (qh4) h4),fa 73 (wU B (t - 16)+ss0 (wU B (t - 15))) (wU B (t - 7)),.eqv 75 _ _ s2,
      .ext (some 76) _ _ _ _ _ (a64 g 1),.ext none _ _ _ _ _ (stS (B:=B) (x:=0) 1 g (wU B t)),inc 77 t (by omega)] nx (by kernel_rfl)
 · have h:t=64:=by omega
   subst h
   exact fi [na (t:=decide (((64:Nat):Int)<64)) (decide_eq_false (by omega))] (by kernel_rfl) (by kernel_rfl)
end
end Go.Proofs.YtfdfbenejkmnlaaGreatDoor.E.Hs
namespace Go.Proofs.YtfdfbenejkmnlaaGreatDoor.E.Hs
open Go.RowKit Shw
set_option linter.unusedVariables false
set_option linter.unusedSimpArgs false
def KW:List Wd:=shaK.map fun x=>BitVec.ofNat 32 x.toNat
theorem kw_wi:KW.map wi=shaK:=by decide+kernel
theorem kw_gl:shaK.map gW=KW.map wv:=by
 rw[←kw_wi,List.map_map]
 rfl
section
variable {B b:List UInt8} {W:Nat→Wd} {x y z u:Wd} {s r:S8} {l:List V} {n i j t:Nat}
theorem kw_at (h:t<64):(shaK.map gW)[t]? =some (wv (KW.getD t 0)):=by
 rw[kw_gl,List.getElem?_map,getD_lt (l:=KW) (d:=0) (by exact h)]
 rfl
theorem and_v (x y:Wd):V.k (.int .u32 (bits .and .u32 (wi x) (wi y)))=wv (x &&& y):=by rw[w_and];rfl
noncomputable def fn_ (t:Nat) (x y:Wd):F_:= .eqv t _ _ (and_v x y)
noncomputable abbrev fCp:Func:=fnOf PP 177
abbrev T8:Nat:= 176
abbrev T4:Nat:= 219
def v4 (r:S8):List V:=[wv r.a,wv r.b,wv r.c,wv r.d]
def e4 (r:S8):List V:=[wv r.e,wv r.f,wv r.g,wv r.h]
def z8:List V:=List.replicate 8 (wv 0)
noncomputable def cpX (B:List UInt8) (s r:S8) (t:Nat):St:=at_ fCp [(2,.lp 0 0),(4,.lp 1 0),(5,.lp 2 0),(6,.lp 3 0),(7,.lp 4 0),(21,.ag (shaK.map gW)),(22,ni (t:Int))] [.bx T8 (st8 s),.bx T8 z8,.bx T64 (w64 (wS B 64 0)),.bx T4 (v4 r),.bx T4 (e4 r)]
noncomputable def cpZ (l:List V) (r:S8) (i:Nat):St:=at_ fCp [(2,.lp 0 0),(4,.lp 1 0),(6,.lp 3 0),(7,.lp 4 0),(94,ni (i:Int))] [.bx T8 l,.bx T8 z8,.dead,.bx T4 (v4 r),.bx T4 (e4 r)]
theorem b04:Ext PP (mkSb2 T8) [.lp 0 0,ni ((4:Nat):Int)] [] [] (.bs 0 0 4 8):=x_bs2 (e:=T32) (by kernel_rfl) (by kernel_rfl) (by omega) (by omega)
theorem b48:Ext PP (mkSb1 T8) [.lp 0 0,ni ((4:Nat):Int)] [] [] (.bs 0 (0+4) (8 - 4) (8 - 4)):=x_bs1 (e:=T32) (by kernel_rfl) (by kernel_rfl) (by omega)
theorem p04:Ext PP (mkSa T4) [.bs 0 0 4 8] [] [] (.lp 0 0):=x_s2p (n:=4) (e:=T32) (by kernel_rfl) (by omega)
theorem p48:Ext PP (mkSa T4) [.bs 0 (0+4) (8 - 4) (8 - 4)] [] [] (.lp 0 (0+4)):=x_s2p (n:=4) (e:=T32) (by kernel_rfl) (by omega)
theorem kwX (h:t<64):Ext PP (mkIx T64) [.ag (shaK.map gW),ni (t:Int)] [] [] (wv (KW.getD t 0)):=x_ix (n:=64) (e:=T32) (by kernel_rfl) (by kernel_rfl) h (by kernel_rfl) (kw_at h)
end
end Go.Proofs.YtfdfbenejkmnlaaGreatDoor.E.Hs
namespace Go.Proofs.YtfdfbenejkmnlaaGreatDoor.E.Hs
open Go.RowKit Shw
set_option linter.unusedVariables false
set_option linter.unusedSimpArgs false
section
variable {B b:List UInt8} {W:Nat→Wd} {x y z u:Wd} {s r:S8} {l:List V} {n i j t:Nat}
theorem cp_step (B:List UInt8) (s r:S8) (t:Nat) (g:t<64) {D:List V} (h:Gd PP 177 (.ag D) (lp fCp 0) (cpX B s (r.round (KW.getD t 0) (wU B t)) (t+1))):Gd PP 177 (.ag D) (lp fCp 0) (cpX B s r t):=by
 have c1:=e_mix r.e 6 11 25 (by omega) (by omega) (by omega)
 have c2:=e_mix r.a 2 13 22 (by omega) (by omega) (by omega)
 have n1:V.k (.int .u32 (bits .xor .u32 IntKind.u32.max (wi r.e)))=wv (~~~r.e):=by
  rw[show IntKind.u32.max=wi 0xffffffff#32 from by decide,w_xor,BitVec.xor_comm,w_not]
  rfl
 have ld:Ext PP (mkLd T32) [.lp 2 (0+t*1)] [(2,.bx T64 (w64 (wS B 64 0)))] [] (wv (wU B t)):=ldS 2 g g
 let X:=r.h+bs1 r.e+chW r.e r.f r.g+KW.getD t 0+wU B t
 let Y:=bs0 r.a+maW r.a r.b r.c
 exact .to mo_ [] [2,4,5,6,7,21,22] [0,1,2,3,4] 5 [ye (t:=decide ((t:Int)<64)) (decide_eq_true (by omega)),.ext (some 25) _ _ _ _ _ (kwX g),cl c1,fa 31 r.h (bs1 r.e),fn_ 36 r.e r.f,.eqv 39 _ _ n1,fn_ 42 (~~~r.e) r.g,fx 43 (r.e &&& r.f) (~~~r.e &&& r.g),fa 44 (r.h+bs1 r.e) (chW r.e r.f r.g),fa 46 (r.h+bs1 r.e+chW r.e r.f r.g) (KW.getD t 0),.ext (some 48) _ _ _ _ _ (a64 g 2),.ext (some 49) _ _ _ _ _ ld,fa 50 (r.h+bs1 r.e+chW r.e r.f r.g+KW.getD t 0) (wU B t),
  cl c2,fn_ 58 r.a r.b,fn_ 63 r.a r.c,fx 64 (r.a &&& r.b) (r.a &&& r.c),fn_ 69 r.b r.c,fx 70 ((r.a &&& r.b) ^^^ (r.a &&& r.c)) (r.b &&& r.c),fa 71 (bs0 r.a) (maW r.a r.b r.c),fa 75 r.d X,fa 85 X Y,inc 93 t (by omega)] h (by kernel_rfl)
theorem e_comp (s:S8) (B:List UInt8) (hB:B.length=64):Pure PP 177 [.ag (st8 s),.sl (byL B)] (.ag (st8 (s.block KW B))):=by
 let R:Nat→S8:=S8.rounds KW (wordsU B 64) s
 refine pf (by kernel_rfl) (.to mo_ [] [2,4,5,6,7,21,22] [0,1,2,3,4] 5 [cl (e_sched B hB),.ext (some 15) _ _ _ _ _ b04,.ext (some 16) _ _ _ _ _ p04,.ext (some 18) _ _ _ _ _ b48,.ext (some 19) _ _ _ _ _ p48] (td':=lp fCp 0) (σ':=cpX B s s 0) ?_ (by kernel_rfl))
 refine Gd.loop (fun t=>cpX B s (R t) t) (fun t=>t≤64) (fun t=>64 - t) ?_ 0 (Nat.zero_le _)
 intro t ht ih
 by_cases g:t<64
 · exact cp_step B s (R t) t g (ih (t+1) g (by omega))
 · have h:t=64:=by omega
   subst h
   show Gd PP 177 (.ag (st8 (s.add (R 64)))) (lp fCp 0) (cpX B s (R 64) 64)
   generalize R 64=r
   refine .to mo_ [] [2,4,6,7,94] [0,1,3,4] 5 [na (t:=decide (((64:Nat):Int)<64)) (decide_eq_false (by omega))] (td':=lp fCp 1) (σ':=cpZ (st8 s) r 0) ?_ (by kernel_rfl)
   refine .to mo_ [] [2,4,6,7,94] [0,1,3,4] 5 [yt,fa 103 s.a r.a,fa 112 s.e r.e] (td':=lp fCp 1) (σ':=cpZ [wv (s.a+r.a),wv s.b,wv s.c,wv s.d,wv (s.e+r.e),wv s.f,wv s.g,wv s.h] r 1) ?_ (by kernel_rfl)
   refine .to mo_ [] [2,4,6,7,94] [0,1,3,4] 5 [yt,fa 103 s.b r.b,fa 112 s.f r.f] (td':=lp fCp 1) (σ':=cpZ [wv (s.a+r.a),wv (s.b+r.b),wv s.c,wv s.d,wv (s.e+r.e),wv (s.f+r.f),wv s.g,wv s.h] r 2) ?_ (by kernel_rfl)
   refine .to mo_ [] [2,4,6,7,94] [0,1,3,4] 5 [yt,fa 103 s.c r.c,fa 112 s.g r.g] (td':=lp fCp 1) (σ':=cpZ [wv (s.a+r.a),wv (s.b+r.b),wv (s.c+r.c),wv s.d,wv (s.e+r.e),wv (s.f+r.f),wv (s.g+r.g),wv s.h] r 3) ?_ (by kernel_rfl)
   refine .to mo_ [] [2,4,6,7,94] [0,1,3,4] 5 [yt,fa 103 s.d r.d,fa 112 s.h r.h] (td':=lp fCp 1) (σ':=cpZ (st8 (s.add r)) r 4) ?_ (by kernel_rfl)
   exact fi [nf] (by kernel_rfl) (by kernel_rfl)
end
end Go.Proofs.YtfdfbenejkmnlaaGreatDoor.E.Hs
namespace Go.Proofs.YtfdfbenejkmnlaaGreatDoor.E.Hs
open Go.RowKit Shw Ct
set_option linter.unusedVariables false
set_option linter.unusedSimpArgs false
section
variable {P:Program} {w:World}
def mkSs (T:TypeId) (xs:List Operand):Op:= .slice T (xs.getD 0 (.tmp 0)) (some (xs.getD 1 (.tmp 0))) none none
/-- The end of a string. -/
theorem x_ssl {T k:Nat} {s:List UInt8} (hd:P.underlying T=some .string) (hk:k≤s.length):Ext P (mkSs T) [sV s,ni (k:Int)] [] [] (sV (s.drop k)):=by
 intro B M h m w a op xs ho K hl hr hrd _
 obtain⟨x,y,rfl⟩:=ops2 hl
 have hx:=Rep.k_inv (hr 0 x _ rfl rfl)
 have hy:=Rep.k_inv (hr 1 y _ rfl rfl)
 simp only[mkSs,List.getD_cons_zero,List.getD_cons_succ]at ho
 have he:(⟨s.toArray⟩:ByteArray).extract k s.length=⟨(s.drop k).toArray⟩:=by
  apply ByteArray.ext
  rw[ByteArray.data_extract]
  simp
  rw[List.take_of_length_le (by rw[List.length_drop];exact Nat.le_refl _)]
 have hsz:(⟨s.toArray⟩:ByteArray).size=s.length:=by simp[ByteArray.size]
 refine Exec.val (u:= .string ⟨(s.drop k).toArray⟩) (w':=w) ?_ (.same K (.k _ _))
 simp[execOp,ho,Instr.sliceAt,Instr.slice,Instr.sliceBounds,Instr.sliceBound,asIntOf,hx,hy,run_under hd,hsz,hk,he]
end
section
variable {B b:List UInt8} {W:Nat→Wd} {x y z u:Wd} {s r:S8} {l:List V} {n i j t:Nat} {q:SU}
noncomputable abbrev fAd:Func:=fnOf PP 138
abbrev TS:Nat:= 179
def z_:S8:=⟨0,0,0,0,0,0,0,0⟩
noncomputable def adX (q:SU):St:=at_ fAd [(1,sV q.t),(2,.lp 0 0),(4,.lp 1 0)] [.bx TS (strm q.st q.blk q.n),.bx TS (strm z_ [] 0)]
end
end Go.Proofs.YtfdfbenejkmnlaaGreatDoor.E.Hs
namespace Go.Proofs.YtfdfbenejkmnlaaGreatDoor.E.Hs
open Go.RowKit Shw Ct
set_option linter.unusedVariables false
set_option linter.unusedSimpArgs false
section
variable {B b m t:List UInt8} {W:Nat→Wd} {x y z u:Wd} {iv s r:S8} {l:List V} {n i j k:Nat} {q:SU}
def neB (t:List UInt8):Bool:= !((⟨t.toArray⟩:ByteArray).toList==(⟨#[]⟩:ByteArray).toList)
theorem neB_eq (t:List UInt8):neB t=decide (t≠[]):=by
 unfold neB
 rw[ByteArray.toList_eq,ByteArray.toList_eq]
 cases t<;>simp
theorem rem_u (n:Nat) (h:n≤4000000000000):ni (IntKind.i64.wrap ((n:Int).tmod 64))=ni ((n % 64:Nat):Int):=by
 rw[Int.tmod_eq_emod_of_nonneg (by omega),IntKind.wrap_i64,show((n:Int) % 64+9223372036854775808) % 18446744073709551616 - 9223372036854775808=((n % 64:Nat):Int)by omega]
theorem cv_u (n:Nat) (h:n≤4000000000000):V.k (.int .u64 (IntKind.u64.wrap (n:Int)))=uv n:=by
 rw[IntKind.wrap_u64,show(n:Int) % 18446744073709551616=(n:Int)by omega];rfl
theorem add_u (h:n≤4000000000000) (h2:k≤4000000000000):V.k (.int .u64 (IntKind.u64.wrap ((n:Int)+(k:Int))))=uv (n+k):=by
 rw[IntKind.wrap_u64,show((n:Int)+(k:Int)) % 18446744073709551616=((n+k:Nat):Int)by omega];rfl
abbrev TB:Nat:= 89
abbrev TA:Nat:= 177
theorem bs64 (h:i<64):Ext PP (mkSb1 TA) [.lp 0 8,ni (i:Int)] [] [] (.bs 0 (8+i) (64 - i) (64 - i)):=x_bs1 (e:= 5) (by kernel_rfl) (by kernel_rfl) h
theorem bsl0:Ext PP (mkSb0 TA) [.lp 0 8] [] [] (.bs 0 8 64 64):=x_bs0 (e:= 5) (by kernel_rfl) (by kernel_rfl) (by omega)
theorem cp64 (q:SU) (hb:q.blk.length=64):Ext PP (mkCp #[TB,9]) [.bs 0 (8+q.n % 64) (64 - q.n % 64) (64 - q.n % 64),sV q.t] [(0,.bx TS (strm q.st q.blk q.n))] [(0,.bx TS (strm q.st q.bb q.n))] (ni (q.kk:Int)):=by
 have h1:q.kk≤q.t.length:=Nat.min_le_left ..
 have h2:q.n % 64+q.kk≤64:=by
  have:q.kk≤64 - q.n % 64:=Nat.min_le_right ..
  have:=Nat.mod_lt q.n (show 0<64 by omega)
  omega
 have h3:=Nat.mod_lt q.n (show 0<64 by omega)
 exact x_cpy (t:=TB) (t':= 9) (el:= 5) rfl (by kernel_rfl) (by kernel_rfl) rfl (by rw[strm_len];omega) (by rw[strm_len,strm_len]) (strm_cpy hb h1 h2)
theorem ss64 (h:k≤t.length):Ext PP (mkSs 9) [sV t,ni (k:Int)] [] [] (sV (t.drop k)):=x_ssl (by kernel_rfl) h
theorem cb64 (s:S8) (b:List UInt8) (n:Nat) (hb:b.length=64):Ext PP (mkC2 #[T8,TB]) [.cl 177 [],.ag (st8 s),.bs 0 8 64 64] [(0,.bx TS (strm s b n))] [] (.ag (st8 (s.block KW b))):=by
 have hl:(byL b).length=64:=by unfold byL;rw[List.length_map,hb]
 refine x_cbs (e_comp s b hb) rfl rfl rfl hl (by omega) (by decide) (fun cs h=> ?_) (fun i cs x h1 h2=> ?_)
 · obtain⟨c,_,rfl⟩:=List.mem_map.1 h
   rfl
 · have hi:i<64:=by rw[←hl];exact(List.getElem?_eq_some_iff.1 h1).1
   unfold byL at h1
   rw[List.getElem?_map,getD_lt (d:=0) (by rw[hb];exact hi)]at h1
   injection h1 with h1
   subst h1
   injection h2 with h2
   subst h2
   exact⟨rfl,strm_at hi⟩
theorem ad_step (q:SU) (hb:q.blk.length=64) (hn:q.n+q.t.length≤1000000000000) (ht:q.t≠[]) {D:List V} (h:Gd PP 138 (.ag D) (lp fAd 0) (adX (q.step KW))):Gd PP 138 (.ag D) (lp fAd 0) (adX q):=by
 have h1:q.kk≤q.t.length:=Nat.min_le_left ..
 have h2:q.kk≤64 - q.n % 64:=Nat.min_le_right ..
 have h3:=Nat.mod_lt q.n (show 0<64 by omega)
 have hbb:q.bb.length=64:=blkU_len hb (by omega) h1
 have c0:neB q.t=true:=by rw[neB_eq];exact decide_eq_true ht
 by_cases g:q.n % 64+q.kk=64
 · have e:q.step KW=⟨q.st.block KW q.bb,q.bb,q.n+q.kk,q.t.drop q.kk⟩:=by unfold SU.step;rw[if_pos g]
   rw[e]at h
   exact .to mo_ [] [1,2,4] [0,1] 2 [ye c0,.eqv 12 _ _ (rem_u q.n (by omega)),.ext (some 15) _ _ _ _ _ (bs64 h3),.ext (some 17) _ _ _ _ _ (cp64 q hb),.ext (some 20) _ _ _ _ _ (ss64 h1),.eqv 24 _ _ (cv_u q.kk (by omega)),.eqv 25 _ _ (add_u (n:=q.n) (k:=q.kk) (by omega) (by omega)),.eqv 29 _ _ (add_i (i:=q.n % 64) (j:=q.kk) (by omega) (by omega)),ye (t:=(((q.n % 64+q.kk:Nat):Int)==64)) (by rw[g];rfl),.ext (some 34) _ _ _ _ _ bsl0,.ext (some 35) _ _ _ _ _ (cb64 q.st q.bb (q.n+q.kk) hbb)] h (by kernel_rfl)
 · have e:q.step KW=⟨q.st,q.bb,q.n+q.kk,q.t.drop q.kk⟩:=by unfold SU.step;rw[if_neg g]
   rw[e]at h
   exact .to mo_ [] [1,2,4] [0,1] 2 [ye c0,.eqv 12 _ _ (rem_u q.n (by omega)),.ext (some 15) _ _ _ _ _ (bs64 h3),.ext (some 17) _ _ _ _ _ (cp64 q hb),.ext (some 20) _ _ _ _ _ (ss64 h1),.eqv 24 _ _ (cv_u q.kk (by omega)),.eqv 25 _ _ (add_u (n:=q.n) (k:=q.kk) (by omega) (by omega)),.eqv 29 _ _ (add_i (i:=q.n % 64) (j:=q.kk) (by omega) (by omega)),na (t:=(((q.n % 64+q.kk:Nat):Int)==64)) (by simp;omega)] h (by kernel_rfl)
theorem e_add {q:SU} (H:Str KW iv m q.st q.blk) (hn:q.n=m.length) (hsz:q.n+q.t.length≤1000000000000):∃ st blk,Str KW iv (m++q.t) st blk∧Pure PP 138 [.ag (strm q.st q.blk q.n),sV q.t] (.ag (strm st blk (m++q.t).length)):=by
 obtain⟨f1,f2,f3⟩:=SU.fin H hn
 refine⟨_,_,f3, ?_⟩
 have f4:(m++q.t).length=(q.it KW q.t.length).n:=by rw[f1,List.length_append]
 rw[f4]
 refine pf (by kernel_rfl) (.to mo_ [] [1,2,4] [0,1] 2 [] (td':=lp fAd 0) (σ':=adX q) ?_ (by kernel_rfl))
 refine Gd.loop (fun i=>adX (q.it KW i)) (fun i=>i≤q.t.length) (fun i=>q.t.length - i) ?_ 0 (Nat.zero_le _)
 intro i hi ih
 obtain⟨c,h1,h2,h3,h4,h5⟩:=SU.inv H hn i
 by_cases g:(q.it KW i).t=[]
 · have e:=SU.same g h4.len (q.t.length - i)
   rw[show i+(q.t.length - i)=q.t.length by omega]at e
   rw[e]
   generalize q.it KW i=r at*
   have c0:neB r.t=false:=by rw[neB_eq,g];rfl
   exact fi [na c0] (by kernel_rfl) (by kernel_rfl)
 · have hc:c<q.t.length:=by
    rcases Nat.lt_or_ge c q.t.length with h|h
    · exact h
    · exact absurd (by rw[h3,List.drop_of_length_le h]) g
   have hd:(q.it KW i).t.length=q.t.length - c:=by rw[h3,List.length_drop]
   exact ad_step _ h4.len (by rw[h2,hd];omega) g (ih (i+1) (by omega) (by omega))
end
end Go.Proofs.YtfdfbenejkmnlaaGreatDoor.E.Hs
