/-
 none
-/
import Derived.Test.YtfdfbenejkmnlaaGreatDoorShL
import Derived.Lib.ConvBytes
import Derived.Lib.AppendStr
import Derived.Test.YtfdfbenejkmnlaaGreatDoorEtD
import Derived.Test.YtfdfbenejkmnlaaGreatDoorEwX
import Derived.Laws.Pointers
import Derived.Test.YtfdfbenejkmnlaaGreatDoorCaA
namespace Go.Proofs.YtfdfbenejkmnlaaGreatDoor.E.Hs
open Go.RowKit Shw Ct
set_option linter.unusedVariables false
set_option linter.unusedSimpArgs false
def IV:S8:=⟨0x6a09e667#32,0xbb67ae85#32,0x3c6ef372#32,0xa54ff53a#32,0x510e527f#32,0x9b05688c#32,0x1f83d9ab#32,0x5be0cd19#32⟩
def S8.wd (s:S8) (i:Nat):Wd:=[s.a,s.b,s.c,s.d,s.e,s.f,s.g,s.h].getD i 0
def outU (s:S8) (i:Nat):UInt8:=UInt8.ofNat ((S8.wd s (i / 4)) >>> (24 - 8*(i % 4))).toNat
def w32 (W:Nat→UInt8):List V:=(List.range 32).map fun i=>bv (W i)
def lenB (n i:Nat):UInt8:=UInt8.ofNat (8*n / 2 ^ (56 - 8*i))
def padW (n i:Nat):List UInt8:=128::(List.replicate (zerosN n) 0++(List.range i).map (lenB n))
def padZ (j:Nat):List UInt8:=128::List.replicate j 0
theorem padW_0 (n:Nat):padW n 0=padZ (zerosN n):=by unfold padW padZ;simp
theorem padW_8 (n:Nat):padW n 8=padU n:=rfl
section
variable {B b m t blk:List UInt8} {W W':Nat→UInt8} {x y z u:Wd} {iv s r:S8} {l:List V} {n i j k:Nat}
theorem padZ_len:(padZ j).length=j+1:=by unfold padZ;simp
theorem padW_len:(padW n i).length=1+zerosN n+i:=by unfold padW;simp;omega
theorem zerosN_lt (n:Nat):zerosN n<64:=Nat.mod_lt _ (by decide)
theorem byL_app (a b:List UInt8):byL a++byL b=byL (a++b):=by unfold byL;rw[List.map_append]
theorem byL_len (a:List UInt8):(byL a).length=a.length:=by unfold byL;rw[List.length_map]
theorem padZ_next:byL (padZ j)++[[bv 0]]=byL (padZ (j+1)):=by
 show byL (padZ j)++byL [0]=_
 rw[byL_app]
 unfold padZ
 rw[List.cons_append,←List.replicate_succ']
theorem padW_next:byL (padW n i)++[[bv (lenB n i)]]=byL (padW n (i+1)):=by
 show byL (padW n i)++byL [lenB n i]=_
 rw[byL_app]
 unfold padW
 rw[List.cons_append,List.append_assoc,List.range_succ,List.map_append]
 rfl
theorem w32_len:(w32 W).length=32:=by unfold w32;simp
theorem w32_put {v:UInt8} (h1:W' i=v) (h2:∀ j,j≠i→W' j=W j):(w32 W).set i (bv v)=w32 W':=by
 apply List.ext_getElem?
 intro j
 rw[List.getElem?_set,w32_len]
 unfold w32
 by_cases e:i=j
 · subst e
   rw[if_pos rfl]
   by_cases g:i<32
   · rw[if_pos g,List.getElem?_map,List.getElem?_range g];show _=some (bv (W' i));rw[h1]
   · rw[if_neg g,List.getElem?_eq_none (by simp;omega)]
 · rw[if_neg e]
   by_cases g:j<32
   · rw[List.getElem?_map,List.getElem?_map,List.getElem?_range g];show some (bv (W j))=some (bv (W' j));rw[h2 j fun q=>e q.symm]
   · rw[List.getElem?_eq_none (by simp;omega),List.getElem?_eq_none (by simp;omega)]
def wP (s:S8) (i j:Nat):UInt8:=if j<i then outU s j else 0
theorem wP_put:(w32 (wP s i)).set i (bv (outU s i))=w32 (wP s (i+1)):=w32_put (if_pos (Nat.lt_succ_self i)) fun j h=>by
 unfold wP
 by_cases g:j<i
 · rw[if_pos g,if_pos (by omega)]
 · rw[if_neg g,if_neg (by omega)]
theorem wP_end:w32 (wP s 32)=w32 (outU s):=by
 unfold w32
 refine List.map_congr_left fun i hi=> ?_
 unfold wP
 rw[if_pos (List.mem_range.1 hi)]
theorem u8_w (n:Nat):V.k (.int .u8 (IntKind.u8.wrap (n:Int)))=bv (UInt8.ofNat n):=by
 unfold bv
 rw[IntKind.wrap_u8,UInt8.toNat_ofNat']
 rfl
theorem quo_i (h:i<1000):ni (IntKind.i64.wrap ((i:Int).tdiv 4))=ni ((i / 4:Nat):Int):=by
 rw[Int.tdiv_eq_ediv_of_nonneg (by omega),IntKind.wrap_i64,show((i:Int) / 4+9223372036854775808) % 18446744073709551616 - 9223372036854775808=((i / 4:Nat):Int)by omega]
theorem rem_i (h:i<1000):ni ((i:Int).tmod 4)=ni ((i % 4:Nat):Int):=by
 rw[Int.tmod_eq_emod_of_nonneg (by omega),show((i:Int) % 4)=((i % 4:Nat):Int)by omega]
theorem shr_u (m n:Nat) (h:n<64):V.k (.int .u64 ((m:Int).fdiv (2 ^ (min ((n:Int)).toNat IntKind.u64.bits))))=uv (m / 2 ^ n):=by
 rw[Int.toNat_natCast,show IntKind.u64.bits=64 from rfl,Nat.min_eq_left (by omega),show((2:Int) ^ n)=((2 ^ n:Nat):Int)by rw[Int.natCast_pow];rfl,Int.fdiv_eq_ediv_of_nonneg _ (Int.natCast_nonneg _)]
 rfl
theorem mul_u (h:n≤1000000000000):V.k (.int .u64 (IntKind.u64.wrap (8*(n:Int))))=uv (8*n):=by
 rw[IntKind.wrap_u64,show(8*(n:Int)) % 18446744073709551616=((8*n:Nat):Int)by omega];rfl
theorem cv_i (h:n≤1000000000000):ni (IntKind.i64.wrap (n:Int))=ni (n:Int):=by
 rw[IntKind.wrap_i64,show((n:Int)+9223372036854775808) % 18446744073709551616 - 9223372036854775808=(n:Int)by omega]
theorem rem_n (h:n≤4000000000000):ni ((n:Int).tmod 64)=ni ((n % 64:Nat):Int):=by
 rw[Int.tmod_eq_emod_of_nonneg (by omega),show((n:Int) % 64)=((n % 64:Nat):Int)by omega]
theorem st8_at (h:i<8):(strm s b n)[i]? =some (wv (S8.wd s i)):=by
 match i,h with
 |0,_=>rfl
 |1,_=>rfl
 |2,_=>rfl
 |3,_=>rfl
 |4,_=>rfl
 |5,_=>rfl
 |6,_=>rfl
 |7,_=>rfl
noncomputable abbrev fSm:Func:=fnOf PP 140
abbrev T32b:Nat:= 183
abbrev T8b:Nat:= 5
theorem e_begin:Pure PP 137 [] (.ag (strm IV (List.replicate 64 0) 0)):=tr [] (by kernel_rfl)
noncomputable def smX (s:S8) (b:List UInt8) (n j:Nat):St:=at_ fSm [(1,.lp 0 0),(2,.lp 1 0),(3,uv (8*n)),(4,.ow 2)] [.bx TS (strm s b n),.bx T32b (w32 fun _=>0),.rw T8b 1 (byL (padZ j))]
noncomputable def smY (s:S8) (b:List UInt8) (n i:Nat):St:=at_ fSm [(1,.lp 0 0),(2,.lp 1 0),(3,uv (8*n)),(4,.ow 2),(23,ni (i:Int))] [.bx TS (strm s b n),.bx T32b (w32 fun _=>0),.rw T8b 1 (byL (padW n i))]
noncomputable def smZ (s:S8) (b:List UInt8) (n i:Nat):St:=at_ fSm [(1,.lp 0 0),(2,.lp 1 0),(6,.lp 2 0),(40,ni (i:Int))] [.bx TS (strm s b n),.bx T32b (w32 fun _=>0),.bx T32b (w32 (wP s i))]
end
end Go.Proofs.YtfdfbenejkmnlaaGreatDoor.E.Hs
namespace Go.Proofs.YtfdfbenejkmnlaaGreatDoor.E.Hs
open Go.RowKit Shw Ct
set_option linter.unusedVariables false
set_option linter.unusedSimpArgs false
section
variable {B b m t blk:List UInt8} {W W':Nat→UInt8} {x y z u:Wd} {iv s r:S8} {l:List V} {n i j k:Nat}
theorem sm_one (s:S8) (b:List UInt8) (n j:Nat) (hn:n≤100000000000) (hj:j<zerosN n) {D:List V} (h:Gd PP 140 (.ag D) (lp fSm 0) (smX s b n (j+1))):Gd PP 140 (.ag D) (lp fSm 0) (smX s b n j):=by
 have hz:=zerosN_lt n
 have e16:ni ((byL (padZ j)).length:Int)=ni ((j+1:Nat):Int):=by rw[byL_len,padZ_len]
 have c:(((n+(j+1)) % 64:Nat):Int) != 56:=by
  unfold zerosN at hj
  simp
  omega
 exact .to mo_ [.mv 2 4] [1,2,3,4] [0,1,2] 3 [.eqv 14 _ _ (cv_i (n:=n) (by omega)),.eqv 16 _ _ e16,.eqv 17 _ _ (add_i (i:=n) (j:=j+1) (by omega) (by omega)),.eqv 18 _ _ (rem_n (n:=n+(j+1)) (by omega)),ye c,.app (byL (padZ j)) [[bv 0]] (byL (padZ (j+1))) 1000 padZ_next Nat.zero_lt_one (by rw[byL_len,padZ_len];omega)] h (by kernel_rfl)
theorem sm_two (s:S8) (b:List UInt8) (n i:Nat) (hn:n≤100000000000) (hi:i<8) {D:List V} (h:Gd PP 140 (.ag D) (lp fSm 1) (smY s b n (i+1))):Gd PP 140 (.ag D) (lp fSm 1) (smY s b n i):=by
 have hz:=zerosN_lt n
 exact .to mo_ [.mv 2 4] [1,2,3,4,23] [0,1,2] 3 [ye (t:=decide ((i:Int)<8)) (decide_eq_true (by omega)),.eqv 29 _ _ (mul_i (i:=i) (j:=8) (by omega) (by omega)),.eqv 30 _ _ (sub_i (i:=56) (j:=8*i) (by omega) (by omega)),.eqv 31 _ _ (shr_u (8*n) (56 - 8*i) (by omega)),.eqv 32 _ _ (u8_w (8*n / 2 ^ (56 - 8*i))),.app (byL (padW n i)) [[bv (lenB n i)]] (byL (padW n (i+1))) 1000 padW_next Nat.zero_lt_one (by rw[byL_len,padW_len];omega),inc 35 i (by omega)] h (by kernel_rfl)
theorem aT8 (h:i<8) (b:Nat):Ext PP (mkIa T8) [.lp b 0,ni (i:Int)] [] [] (.lp b (0+i*1)):=x_ia (n:=8) (e:=T32) (by kernel_rfl) (by kernel_rfl) h
theorem lT8 {l:List V} {d:Wd} (c U:Nat) (h:l[i]? =some (wv d)):Ext PP (mkLd T32) [.lp c (0+i*1)] [(c,.bx U l)] [] (wv d):=x_ld (by kernel_rfl) (by rw[Nat.zero_add,Nat.mul_one];exact h)
theorem aT32 (h:i<32) (b:Nat):Ext PP (mkIa T32b) [.lp b 0,ni (i:Int)] [] [] (.lp b (0+i*1)):=x_ia (n:=32) (e:=T8b) (by kernel_rfl) (by kernel_rfl) h
theorem sT32 {l l':List V} {d:UInt8} (c U:Nat) (h:i<l.length) (h2:l.set i (bv d)=l'):Ext PP (mkSt T8b) [.lp c (0+i*1),bv d] [(c,.bx U l)] [(c,.bx U l')] .un:=x_st (by kernel_rfl) rfl rfl (by omega) (by rw[Nat.zero_add,Nat.mul_one];exact h2)
theorem sm_three (s:S8) (b:List UInt8) (n i:Nat) (hi:i<32) {D:List V} (h:Gd PP 140 (.ag D) (lp fSm 2) (smZ s b n (i+1))):Gd PP 140 (.ag D) (lp fSm 2) (smZ s b n i):=by
 have e53:V.k (.int .u32 ((wi (S8.wd s (i / 4))).fdiv (2 ^ (min (((24 - 8*(i % 4):Nat):Int)).toNat IntKind.u32.bits))))=wv ((S8.wd s (i / 4)) >>> (24 - 8*(i % 4))):=by rw[shr_v (by omega)];rfl
 have ld:Ext PP (mkLd T32) [.lp 0 (0+i / 4*1)] [(0,.bx TS (strm s b n))] [] (wv (S8.wd s (i / 4))):=lT8 0 TS (st8_at (by omega))
 have st:Ext PP (mkSt T8b) [.lp 2 (0+i*1),bv (outU s i)] [(2,.bx T32b (w32 (wP s i)))] [(2,.bx T32b (w32 (wP s (i+1))))] .un:=sT32 2 T32b (by rw[w32_len];exact hi) wP_put
 exact .to mo_ [] [1,2,6,40] [0,1,2] 3 [ye (t:=decide ((i:Int)<32)) (decide_eq_true (by omega)),.eqv 45 _ _ (quo_i (i:=i) (by omega)),.ext (some 47) _ _ _ _ _ (aT8 (i:=i / 4) (by omega) 0),.ext (some 48) _ _ _ _ _ ld,.eqv 50 _ _ (rem_i (i:=i) (by omega)),.eqv 51 _ _ (mul_i (i:=i % 4) (j:=8) (by omega) (by omega)),.eqv 52 _ _ (sub_i (i:=24) (j:=8*(i % 4)) (by omega) (by omega)),.eqv 53 _ _ e53,.eqv 54 _ _ (u8_w ((S8.wd s (i / 4)) >>> (24 - 8*(i % 4))).toNat),.ext (some 55) _ _ _ _ _ (aT32 hi 2),.ext none _ _ _ _ _ st,inc 56 i (by omega)] h (by kernel_rfl)
/-- The hash of a stream. -/
theorem e_sum (H:Str KW iv m s b) (hn:m.length≤100000000000):Pure PP 140 [.ag (strm s b m.length)] (.ag (w32 (outU (shaS KW iv m)))):=by
 have hp:=padU_len m.length
 have hpl:(padU m.length).length=9+zerosN m.length:=by rw[←padW_8,padW_len];omega
 have hz:=zerosN_lt m.length
 obtain⟨st,blk,h1,h2⟩:=e_add (q:=⟨s,b,m.length,padU m.length⟩) H rfl (by simp only;omega)
 simp only at h1 h2
 have hst:st=shaS KW iv m:=h1.st
 subst hst
 generalize hN:(m++padU m.length).length=N at h2
 generalize shaS KW iv m=S at*
 generalize hk:m.length=n at*
 refine pf (by kernel_rfl) (.to mo_ [] [1,2,3,4] [0,1,2] 3 [.eqv 10 _ _ (mul_u (n:=n) (by omega))] (td':=lp fSm 0) (σ':=smX s b n 0) ?_ (by kernel_rfl))
 refine Gd.loop (smX s b n) (fun j=>j≤zerosN n) (fun j=>zerosN n - j) ?_ 0 (Nat.zero_le _)
 intro j hj ih
 by_cases g:j<zerosN n
 · exact sm_one s b n j hn g (ih (j+1) g (by omega))
 have hjz:j=zerosN n:=by omega
 subst hjz
 have e16:ni ((byL (padW n 0)).length:Int)=ni ((zerosN n+1:Nat):Int):=by rw[byL_len,padW_len,Nat.add_zero,Nat.add_comm]
 have c:((((n+(zerosN n+1)) % 64:Nat):Int) != 56)=false:=by
  have:(n+(zerosN n+1)) % 64=56:=by unfold zerosN;omega
  rw[this]
  rfl
 have e0:smX s b n (zerosN n)=at_ fSm [(1,.lp 0 0),(2,.lp 1 0),(3,uv (8*n)),(4,.ow 2)] [.bx TS (strm s b n),.bx T32b (w32 fun _=>0),.rw T8b 1 (byL (padW n 0))]:=by unfold smX;rw[padW_0]
 rw[e0]
 refine .to mo_ [] [1,2,3,4,23] [0,1,2] 3 [.eqv 14 _ _ (cv_i (n:=n) (by omega)),.eqv 16 _ _ e16,.eqv 17 _ _ (add_i (i:=n) (j:=zerosN n+1) (by omega) (by omega)),.eqv 18 _ _ (rem_n (n:=n+(zerosN n+1)) (by omega)),na c] (td':=lp fSm 1) (σ':=smY s b n 0) ?_ (by kernel_rfl)
 refine Gd.loop (smY s b n) (fun j=>j≤8) (fun j=>8 - j) ?_ 0 (Nat.zero_le _)
 intro j hj ih
 by_cases g:j<8
 · exact sm_two s b n j hn g (ih (j+1) g (by omega))
 have h8:j=8:=by omega
 subst h8
 refine .to mo_ [.fz 4] [1,2,4] [0,1] 2 [na (t:=decide (((8:Nat):Int)<8)) (decide_eq_false (by omega))] (td':=rg fSm 10) (σ':=at_ fSm [(1,.lp 0 0),(2,.lp 1 0),(4,.sl (byL (padU n)))] [.bx TS (strm s b n),.bx T32b (w32 fun _=>0)]) ?_ (by kernel_rfl)
 refine .to mo_ [] [1,2,6,40] [0,1,2] 3 [.str (byL (padU n)) (padU n) rfl,cl h2] (td':=lp fSm 2) (σ':=smZ S blk N 0) ?_ (by kernel_rfl)
 refine Gd.loop (smZ S blk N) (fun j=>j≤32) (fun j=>32 - j) ?_ 0 (Nat.zero_le _)
 intro j hj ih
 by_cases g:j<32
 · exact sm_three S blk N j g (ih (j+1) g (by omega))
 have h9:j=32:=by omega
 subst h9
 rw[←wP_end]
 exact fi [na (t:=decide (((32:Nat):Int)<32)) (decide_eq_false (by omega))] (by kernel_rfl) (by kernel_rfl)
end
end Go.Proofs.YtfdfbenejkmnlaaGreatDoor.E.Hs
namespace Go.Proofs.YtfdfbenejkmnlaaGreatDoor.E.Hs
open Go.RowKit Shw Ct
set_option linter.unusedVariables false
set_option linter.unusedSimpArgs false
section
variable {P:Program} {w:World} {s R:List UInt8}
def mkCv (S D:TypeId) (xs:List Operand):Op:= .convert S D (xs.getD 0 (.tmp 0))
theorem byL_at0 {i j:Nat} {cs:List V} {x:V} (h1:(byL s)[i]? =some cs) (h2:cs[j]? =some x):i<s.length∧j=0∧x=bv (s.getD i 0):=by
 have hi:i<s.length:=by rw[←byL_len s];exact(List.getElem?_eq_some_iff.1 h1).1
 unfold byL at h1
 rw[List.getElem?_map,getD_lt (d:=0) hi]at h1
 injection h1 with h1
 subst h1
 match j,h2 with
 |0,h2=>
  injection h2 with h2
  exact⟨hi,rfl,h2.symm⟩
/-- A string's bytes as a row that is only read. -/
theorem x_s2b {S D e:TypeId} (hS:P.underlying S=some .string) (hD:P.underlying D=some (.slice e)) (he:P.underlying e=some (.int .u8)) (hn:s.length≤1000000000000):Ext P (mkCv S D) [sV s] [] [] (.sl (byL s)):=by
 intro B M h m w a op xs ho K hl hr hrd _
 obtain⟨x,rfl⟩:=ops1 hl
 have hx:=Rep.k_inv (hr 0 x _ rfl rfl)
 simp only[mkCv,List.getD_cons_zero]at ho
 have hrun:=Lib.run_convert_string_bytes (P:=P) w S D e ⟨s.toArray⟩ hS hD he
 have hbel:Below w.heap.size w (Lib.bytesWorld w e ⟨s.toArray⟩):=⟨rfl,rfl,rfl,by rw[Lib.bytesWorld_size];omega,fun k hk=>Lib.bytesWorld_at_old w e _ k hk⟩
 have hsz:(⟨s.toArray⟩:ByteArray).size=(byL s).length:=by rw[byL_len];rfl
 have hml:(byL s).length≤maxLen:=by rw[byL_len];unfold maxLen;omega
 have hge:=grownCap_ge w (byL s).length 0 e
 have hcm:=grownCap_le_maxLen w (byL s).length 0 e hml
 refine Exec.val (u:= .slice (some ⟨w.heap.size,0,none⟩) (byL s).length (grownCap w (byL s).length 0 e)) (w':=Lib.bytesWorld w e ⟨s.toArray⟩) ?_ ⟨m,K.call hbel, ?_,.call hbel,Bl.of hbel K.bs,fun b hb=> .inl hb⟩
 · rw[hsz]at hrun
   simp[execOp,ho,hx,hrun]
 · refine .sl _ (some ⟨w.heap.size,0,none⟩) w.heap.size 0 _ 1 (byL s) (fun i _=> .int .u8 ((s.getD i 0).toNat:Int)) hge hcm (fun _=>⟨rfl,fun e'=>Nat.lt_irrefl _ (K.av_lt e'),⟨_,_,_,Lib.bytesWorld_at_new w e _⟩⟩) (fun cs hcs=> ?_) (fun i j cs y h1 h2=> ?_) (fun i j cs y h1 h2=> ?_)
   · obtain⟨c,_,rfl⟩:=List.mem_map.1 hcs
     rfl
   · obtain⟨hi,rfl,rfl⟩:=byL_at0 h1 h2
     have:=Lib.bytesWorld_cell w e ⟨s.toArray⟩ i (by rw[hsz,byL_len];exact hi)
     rw[show 0+i*1+0=i by omega,this]
   · obtain⟨hi,rfl,rfl⟩:=byL_at0 h1 h2
     exact .k _ _
def mkAs (T S:TypeId) (xs:List Operand):Op:= .call ⟨.builtin .append, #[xs.getD 0 (.tmp 0),xs.getD 1 (.tmp 0)], #[T,S]⟩
/-- A string behind a row. -/
theorem x_apS {T S e b j : Nat} {i : TypeInfo} (hT : P.underlying T = some (.slice e)) (hS : P.underlying S = some .string) (hi : P.info? e = some i) (hz : i.zero = some (.int .u8 0)) (hsz : i.size = 1) (hby : i.bytes = 1) (hR : 0 < R.length) (hn : R.length + s.length ≤ 1000000000000) (hbj : j ≠ b) :
  Ext P (mkAs T S) [.ow b,sV s] [(b,.rw e 1 (byL R))] [(j,.rw e 1 (byL (R++s))),(b,.dead)] (.ow j):=by
 intro B M h m w a op xs ho K hl hr hrd hws
 obtain⟨x,y,rfl⟩:=ops2 hl
 have hx:=hr 0 x _ rfl rfl
 have hy:=Rep.k_inv (hr 1 y _ rfl rfl)
 have hb:h b= .rw e 1 (byL R):=hrd (b,.rw e 1 (byL R)) (List.mem_singleton.2 rfl)
 obtain⟨hj1,hj2⟩:=hws j (by simp) (by simpa using hbj)
 simp only[mkAs,List.getD_cons_zero,List.getD_cons_succ]at ho
 obtain⟨v,us,h1,h2,h3,h4,h5⟩:=K.rw b e 1 (byL R) hb
 have hown:(h b).own=true:=by rw[hb];rfl
 have hss:(⟨s.toArray⟩:ByteArray).size=s.length:=rfl
 have hlen:(byL (R++s)).length=(byL R).length+s.length:=by rw[byL_len,byL_len,List.length_append]
 have hml:(byL R).length+s.length≤maxLen:=by rw[byL_len];unfold maxLen;omega
 generalize hu:a.eval x=u at hx
 cases hx with
 | ow _ _ ad n c hm =>
  rw[h1]at hm
  injection hm with hm
  subst hm
  obtain⟨v',w',r1,r2,r3,r4⟩:=Lib.run_append_own_string (P:=P) w 0 T S op.type e i hT hS hi hz hsz hby _ (byL R).length us h3.kit ⟨s.toArray⟩ (by rw[hss];exact hml) (by rw[hss,byL_len];omega) (Nat.zero_le _)
  have key : ∀ g, E.blk v' = some g → E.blk (.slice ad n c) = some g ∨ w.heap.size ≤ g := by
   rcases h3.2 with⟨_,h6⟩|⟨g,cap,cur,hv,hbg,hg,hnc,hcm,hcs,htake⟩
   · rw[byL_len]at h6;omega
   · injection hv with e1 e2 e3
     subst e1;subst e2;subst e3
     by_cases hroom:(byL R).length+s.length≤c
     · have hr':=Lib.run_append_room_string (P:=P) w T S op.type e i hT hS hi hsz g (byL R).length c cur hg ⟨s.toArray⟩ (by rw[hss];exact hroom) (by rw[hss,hcs];omega)
       rw[hr']at r1
       injection r1 with r1 _
       subst r1
       exact fun g hg=> .inl hg
     · have holds:∀ j u,us[j]? =some u→w.cell? ((⟨g,0,none⟩:Addr).add j)=some u:=h3.kit.cells (g:=g) rfl
       have hr':=Lib.run_append_grow_string (P:=P) w T S op.type e i (.int .u8 0) hT hS hi hz ⟨g,0,none⟩ (byL R).length c us (by rw[hsz];exact h3.1) holds ⟨s.toArray⟩ (by rw[hss];omega) (by rw[hss,byL_len];omega) (by rw[hby,hss];exact growslice_fits (by omega) (by rw[byL_len];omega))
       rw[hr']at r1
       injection r1 with r1 _
       subst r1
       intro g hg
       simp only[E.blk,Option.some.injEq]at hg
       exact .inr (by omega)
  have hkit : OwR w' B e 1 v' ((byL R).length + s.length) (us ++ Lib.strCells ⟨s.toArray⟩) := by
   rw[hss]at r2
   refine .of r2 (fun g _ hg hB=> ?_)
   rcases key g hg with e'|e'
   · rcases h3.2 with⟨h6,_⟩|⟨g',cap,cur,h6,hbg,_⟩
     · rw[h6]at e';cases e'
     · rw[h6]at e'
       simp only[E.blk,Option.some.injEq]at e'
       subst e'
       exact hbg hB
   · have:=K.bs g hB;omega
  have hv':∃ A c',v'= .slice A ((byL R).length+s.length) c':=by
   rcases hkit.2 with⟨h6,h7⟩|⟨g,cap,cur,h6,_⟩
   · rw[byL_len]at h7;omega
   · exact⟨_,_,h6⟩
  obtain⟨A',c',rfl⟩:=hv'
  obtain⟨t1,t2⟩:=K.app (x:= .rw e 1 (byL (R++s))) (u':= .slice A' ((byL R).length+s.length) c') hown h1 (blk_own _ ⟨_,_,_,rfl⟩) hbj hj1 hj2 r3 key (fun _ _ e=>by cases e) (fun T' z' l' e'=>by
   injection e' with e1 e2 e3
   subst e1;subst e2;subst e3
   refine⟨us++Lib.strCells ⟨s.toArray⟩,fun cs hcs=> ?_,by rw[hlen];exact hkit,fun u hu=>(List.mem_append.1 hu).elim (h4 u) (Lib.strCells_oneCell _ u),fun q y hq=> ?_⟩
   · obtain⟨c,_,rfl⟩:=List.mem_map.1 hcs
     rfl
   · have hul:us.length=R.length:=by rw[h3.1,byL_len,Nat.mul_one]
     rw[←byL_app,List.flatten_append]at hq
     have hfl:(byL R).flatten.length=R.length:=by rw[flat_len h2,byL_len,Nat.mul_one]
     rcases Nat.lt_or_ge q R.length with hj|hj
     · rw[List.getElem?_append_left (by omega)]at hq
       rw[List.getD_eq_getElem?_getD,List.getElem?_append_left (by omega),←List.getD_eq_getElem?_getD]
       exact h5 q y hq
     · rw[List.getElem?_append_right (by omega),hfl]at hq
       rw[List.getD_eq_getElem?_getD,List.getElem?_append_right (by omega),hul]
       obtain⟨cs,k1,k2⟩:=flat_inv (Nat.zero_lt_one) (fun cs hcs=>by
        obtain⟨c,_,rfl⟩:=List.mem_map.1 hcs
        rfl) hq
       obtain⟨k3,k4,rfl⟩:=byL_at0 k1 k2
       rw[Nat.div_one]at k3⊢
       have:(Lib.strCells ⟨s.toArray⟩)[q - R.length]? =some (.int .u8 ((s.getD (q - R.length) 0).toNat:Int)):=by
        unfold Lib.strCells
        rw[List.getElem?_map]
        show(s.toArray.toList[q - R.length]?).map _=_
        rw[List.toList_toArray,getD_lt (d:=0) k3]
        rfl
       rw[this]
       exact .k _ _) rfl
  refine Exec.val (u:= .slice A' ((byL R).length+s.length) c') (w':=w') ?_ ⟨_,t1,.ow _ _ _ _ _ upd_eq,t2,Bl.grown r3 K.bs fun k hk=>(K.blk hown h1 ((blk_own _ ⟨_,_,_,rfl⟩).trans hk)).1,fun q hq=> ?_⟩
  · simp[execOp,ho,resolve,invoke,builtin,hu,hy,r1]
  · by_cases e':q=j
    · subst e';exact .inr (by simp)
    · rw[upd_ne e']at hq;exact .inl hq
end
end Go.Proofs.YtfdfbenejkmnlaaGreatDoor.E.Hs
namespace Go.Proofs.YtfdfbenejkmnlaaGreatDoor.E.Hs
open Go.RowKit Shw Ct
set_option linter.unusedVariables false
set_option linter.unusedSimpArgs false
def bsE (s:List UInt8):List UInt8:=W.enc (s.length:Int)++s
def inU (tag:Nat) (ps:List (List UInt8)):List UInt8:=UInt8.ofNat tag::ps.flatMap bsE
def w16 (W:Nat→UInt8):List V:=(List.range 16).map fun i=>bv (W i)
def stL (ps:List (List UInt8)):List (List V):=ps.map fun p=>[sV p]
/-- The digest. -/
def dgW (tag:Nat) (ps:List (List UInt8)):Nat→UInt8:=outU (shaS KW IV (inU tag ps))
section
variable {s p:List UInt8} {ps:List (List UInt8)} {b blk:List UInt8} {st:S8} {n i k tag:Nat}
theorem e_wbytes (s:List UInt8) (hn:s.length≤100000000000):Pure PP 139 [sV s] (.o 5 1 (byL (bsE s))):=by
 have h64:W.Is64 (s.length:Int):=by unfold W.Is64;omega
 have he:=W.enc_le (s.length:Int)
 have ap:Ext PP (mkAs TB 9) [.ow 0,sV s] [(0,.rw 5 1 (byL (W.enc (s.length:Int))))] [(1,.rw 5 1 (byL (bsE s))),(0,.dead)] (.ow 1):=x_apS (e:= 5) (by kernel_rfl) (by kernel_rfl) (i:=(PP.info? 5).getD default) (by kernel_rfl) (by kernel_rfl) (by kernel_rfl) (by kernel_rfl) he.1 (by omega) (by omega)
 have e4:ni ((⟨s.toArray⟩:ByteArray).size:Int)=ni (s.length:Int):=rfl
 exact tr [.eqv 4 _ _ e4,cl (e_wint h64),.ext (some 7) _ _ _ _ _ ap] (by kernel_rfl)
noncomputable abbrev fOf:Func:=fnOf PP 93
abbrev TD:Nat:= 103
noncomputable def ofX (ps:List (List UInt8)) (n:Nat) (z:Nat×S8×List UInt8):St:=at_ fOf [(4,.lp 0 0),(5,.lp 2 0),(15,.sl (stL ps)),(16,ni (ps.length:Int)),(17,ni (z.1:Int))] [.bx TD (w16 fun _=>0),.dead,.bx TS (strm z.2.1 z.2.2 n)]
theorem stL_at (h:i<ps.length):(stL ps)[i]? =some [sV (ps.getD i [])]:=by
 unfold stL
 rw[List.getElem?_map,getD_lt (d:=[]) h]
 rfl
theorem inU_next (tag:Nat) (h:i<ps.length):inU tag (ps.take i)++bsE (ps.getD i [])=inU tag (ps.take (i+1)):=by
 unfold inU
 rw[List.take_add_one,List.flatMap_append,List.cons_append,getD_lt (d:=[]) h]
 simp
theorem bsE_len (s:List UInt8):(bsE s).length≤s.length+9∧0<(bsE s).length:=by
 have he:=W.enc_le (s.length:Int)
 unfold bsE
 rw[List.length_append]
 omega
theorem b16:Ext PP (mkSb2 T32b) [.lp 3 0,ni ((16:Nat):Int)] [] [] (.bs 3 0 16 32):=x_bs2 (e:=T8b) (by kernel_rfl) (by kernel_rfl) (by omega) (by omega)
theorem p16:Ext PP (mkSa TD) [.bs 3 0 16 32] [] [] (.lp 3 0):=x_s2p (n:=16) (e:=T8b) (by kernel_rfl) (by omega)
end
end Go.Proofs.YtfdfbenejkmnlaaGreatDoor.E.Hs
namespace Go.Proofs.YtfdfbenejkmnlaaGreatDoor.E.Hs
open Go.RowKit Shw Ct
set_option linter.unusedVariables false
set_option linter.unusedSimpArgs false
section
variable {s p:List UInt8} {ps:List (List UInt8)} {b blk:List UInt8} {st:S8} {n i k tag:Nat}
theorem inU_le (tag:Nat) (i:Nat):(inU tag (ps.take i)).length≤(inU tag ps).length:=by
 have h:inU tag ps=inU tag (ps.take i)++(ps.drop i).flatMap bsE:=by
  unfold inU
  rw[List.cons_append,←List.flatMap_append,List.take_append_drop]
 rw[h,List.length_append]
 omega
theorem e_of (tag:Nat) (ps:List (List UInt8)) (ht:tag≤1000) (hn:ps.length≤1000000) (hps:∀ p∈ps,p.length≤100000000) (hl:(inU tag ps).length≤100000000000):Pure PP 93 [ni (tag:Int),.sl (stL ps)] (.ag (w16 (dgW tag ps))):=by
 have k0:(List.replicate 64 (0:UInt8)).length=64:=List.length_replicate
 obtain⟨st0,blk0,h1,h2⟩:=e_add (iv:=IV) (m:=[]) (q:=⟨IV,List.replicate 64 0,0,[UInt8.ofNat tag]⟩) (Str.nil k0) rfl (by simp)
 simp only[List.nil_append]at h1 h2
 have e16:ni ((stL ps).length:Int)=ni (ps.length:Int):=by unfold stL;rw[List.length_map]
 refine pf (by kernel_rfl) (.to mo_ [] [4,5,15,16,17] [0,2] 3 [cl e_begin,.eqv 11 _ _ (u8_w tag),.ro,.str (byL [UInt8.ofNat tag]) [UInt8.ofNat tag] rfl,cl h2,.eqv 16 _ _ e16] (td':=lp fOf 0) (σ':=ofX ps (inU tag (ps.take 0)).length (0,st0,blk0)) ?_ (by kernel_rfl))
 refine Gd.loop (fun z:Nat×S8×List UInt8=>ofX ps (inU tag (ps.take z.1)).length z) (fun z=>z.1≤ps.length∧Str KW IV (inU tag (ps.take z.1)) z.2.1 z.2.2) (fun z=>ps.length - z.1) ?_ (0,st0,blk0) ⟨Nat.zero_le _,h1⟩
 rintro ⟨i,st,blk⟩ ⟨hi,hS⟩ ih
 simp only at hi hS ih
 have hle:=inU_le (ps:=ps) tag i
 by_cases g:i<ps.length
 · have hp:=hps _ (List.mem_of_getElem? (getD_lt (d:=[]) g))
   have hbl:=bsE_len (ps.getD i [])
   obtain⟨st',blk',k1,k2⟩:=e_add (q:=⟨st,blk,(inU tag (ps.take i)).length,bsE (ps.getD i [])⟩) hS rfl (by simp only;omega)
   simp only at k1 k2
   rw[inU_next tag g]at k1 k2
   have nx:=ih (i+1,st',blk') ⟨g,k1⟩ (by simp only;omega)
   have hw:=(e_wbytes (ps.getD i []) (by omega)).ro
   generalize hq:ps.getD i []=q at*
   have hat:(stL ps)[i]? =some [sV q]:=by rw[stL_at g,hq]
   exact .to mo_ [] [4,5,15,16,17] [0,2] 3 [ye (t:=decide ((i:Int)<(ps.length:Int))) (decide_eq_true (by omega)),.sel _ _ _ hat,cl hw,.str (byL (bsE q)) (bsE q) rfl,cl k2,inc 26 i (by omega)] nx (by kernel_rfl)
 · have hh:i=ps.length:=by omega
   subst hh
   rw[List.take_length]at hS⊢
   have hs:=e_sum hS (by omega)
   exact fi [na (t:=decide ((ps.length:Int)<(ps.length:Int))) (decide_eq_false (by omega)),cl hs,.ext (some 29) _ _ _ _ _ b16,.ext (some 30) _ _ _ _ _ p16] (by kernel_rfl) (by kernel_rfl)
end
end Go.Proofs.YtfdfbenejkmnlaaGreatDoor.E.Hs
namespace Go.Proofs.YtfdfbenejkmnlaaGreatDoor.E
open Go.RowKit Ct
set_option linter.unusedVariables false
set_option linter.unusedSimpArgs false
section
variable {P:Program}
theorem x_pn {T e yT:TypeId} (hT:P.underlying T=some (.pointer e)) (hg:P.eqGuardType P.depth T=false) (b i:Nat):Ext P (mkEq .eql T yT) [.lp b i,.k (.pointer none)] [] [] (.k (.bool false)):=by
 intro B M h m w a o xs ho K hl hr _ _
 obtain⟨x,y,rfl⟩:=two_of hl
 have hx:=hr 0 x _ rfl rfl
 have hy:=Rep.k_inv (hr 1 y _ rfl rfl)
 generalize hu:a.eval x=u at hx
 cases hx with
 |lp _ _ _ g hm=>
  have hq:=run_eql_pointer_nil (P:=P) w T (some ⟨g,i,none⟩) (by simp[Program.pointee,hT])
  have hgd:(eqGuard .eql T x y (.pointer (some ⟨g,i,none⟩)) (.pointer none)).run P w= .ok () w:=by simp[eqGuard,hg]
  refine Exec.val (u:= .bool false) (w':=w) ?_ (.same K (.k _ _))
  simp only[mkEq,List.getD_cons_zero,List.getD_cons_succ]at ho
  simp only[Option.isNone]at hq
  simp[execOp,ho,hu,hy,hgd,hq]
/-- Bytes of a box of the call's own, as a string. -/
theorem x_bss {S D el b o c U:Nat} {cells:List V} {s:List UInt8} (hS:P.underlying S=some (.slice el)) (hel:P.underlying el=some (.int .u8)) (hD:P.underlying D=some .string)
 (hc:∀ i,i<s.length→cells[o+i]? =some (Hs.bv (s.getD i 0))):Ext P (Hs.mkCv S D) [.bs b o s.length c] [(b,.bx U cells)] [] (Hs.sV s):=by
 intro B M h m w a op xs ho K hl hr hrd _
 obtain⟨x,rfl⟩:∃ x,xs=[x]:=by
  match xs,hl with
  |[x],_=>exact⟨x,rfl⟩
 have hx:=hr 0 x _ rfl rfl
 have hb:h b= .bx U cells:=hrd (b,.bx U cells) (List.mem_singleton.2 rfl)
 obtain⟨g,cs,e1,e2,e3,e4,e5⟩:=K.bx b U cells hb
 simp only[Hs.mkCv,List.getD_cons_zero]at ho
 refine Exec.val (u:= .string ⟨s.toArray⟩) (w':=w) ?_ (.same K (.k _ _))
 generalize hu:a.eval x=u at hx
 cases hx with
 |bs _ _ _ _ _ g' hg'=>
  rw[e1]at hg'
  injection hg' with hg'
  injection hg' with hg'
  injection hg' with hg'
  injection hg' with hg'
  subst hg'
  have hcell:∀ (j:Nat) (v:Value),((s.map fun c=>(c.toNat:Int)).map (Value.int .u8))[j]? =some v→w.cell? (Addr.add ⟨g,o,none⟩ j)=some v:=by
   intro j v hv
   simp only[List.getElem?_map,Option.map_eq_some_iff]at hv
   obtain⟨q,⟨y,hy,rfl⟩,rfl⟩:=hv
   have hj:=(List.getElem?_eq_some_iff.1 hy).1
   have h1:=hc j hj
   have h2:=Rep.k_inv (e5 _ _ h1)
   have h3:o+j<cs.size:=by rw[e4];exact(List.getElem?_eq_some_iff.1 h1).1
   rw[Addr.add_lit]
   have h4:s.getD j 0=y:=by rw[List.getD_eq_getElem?_getD,hy];rfl
   rw[h4]at h2
   rw[Array.getD_eq_getD_getElem?,Array.getElem?_eq_getElem h3]at h2
   simp only[Option.getD_some]at h2
   simp[World.cell?,e3,h3,h2]
  have hlo:=run_loadCells_list (P:=P) (w:=w) ⟨g,o,none⟩ _ hcell
  have main:(Conv.bytesToString (.slice (some ⟨g,o,none⟩) s.length c)).run P w= .ok (.string ⟨s.toArray⟩) w:=by
   rw[run_bytesToString w _ _ c (s.map fun c=>(c.toNat:Int)) (by simpa using hlo),push_all]
   simp
  simp[execOp,ho,hu,run_convert_bytes_string w S D el (some ⟨g,o,none⟩) s.length c hS hel hD,main]
end
end Go.Proofs.YtfdfbenejkmnlaaGreatDoor.E
namespace Go.Proofs.YtfdfbenejkmnlaaGreatDoor.E.Hs
open Go.RowKit Shw Ct
set_option linter.unusedVariables false
set_option linter.unusedSimpArgs false
section
variable {P:Program} {w:World}
/-- An element of an array that is only read, by its address. -/
theorem x_ip1 {T e n q t:Nat} {l:List V} {d:V} (hd:P.underlying T=some (.array n e)) (hq:szT P e=some q) (ht:t<n) (hl:l[t*q]? =some d):Ext P (mkIa T) [.ip l,ni (t:Int)] [] [] (.ip [d]):=by
 intro B M h m w a op xs ho K hxl hr hrd hws
 refine Exec.imp (x_ip hd hq ht B M h m w a op xs ho K hxl hr hrd hws) fun u w'=> ?_
 rintro ⟨m',K',hr',r⟩
 refine⟨m',K', ?_,r⟩
 cases hr' with
 |ip _ b o _ us h3 h4 h5 h6=>
  refine .ip _ b o _ us h3 h4 (fun j x hj=> ?_) (fun j x hj=> ?_)
  · match j,hj with
    |0,hj=>
     injection hj with hj
     subst hj
     exact h5 0 _ (by rw[List.getElem?_drop,Nat.add_zero];exact hl)
  · match j,hj with
    |0,hj=>
     injection hj with hj
     subst hj
     exact h6 0 _ (by rw[List.getElem?_drop,Nat.add_zero];exact hl)
end
section
variable {B b:List UInt8} {x y z u:Wd} {n i j k t:Nat}
theorem byL_get (h:i<B.length):(byL B)[i]? =some [bv (B.getD i 0)]:=by
 unfold byL
 rw[List.getElem?_map,getD_lt (d:=0) h]
 rfl
def bW (c:UInt8):Wd:=BitVec.ofNat 32 c.toNat
end
end Go.Proofs.YtfdfbenejkmnlaaGreatDoor.E.Hs
namespace Go.Proofs.YtfdfbenejkmnlaaGreatDoor.E.Hs
open Go.RowKit Shw Ct
set_option linter.unusedVariables false
set_option linter.unusedSimpArgs false
section
variable {B b:List UInt8} {x y z u:Wd} {n i j k t:Nat}
theorem bZ_next:byL (b++padZ j)++[[bv 0]]=byL (b++padZ (j+1)):=by
 rw[←byL_app,List.append_assoc,padZ_next,byL_app]
theorem bW_next:byL (b++padW n i)++[[bv (lenB n i)]]=byL (b++padW n (i+1)):=by
 rw[←byL_app,List.append_assoc,padW_next,byL_app]
theorem b1z (cs:List V) (h:cs∈byL b):cs.length=1∧cs.all one=true:=by
 obtain⟨c,_,rfl⟩:=List.mem_map.1 h
 exact⟨rfl,rfl⟩
theorem kI (h:t<64):Ext PP (mkIa T64) [.ip (shaK.map gW),ni (t:Int)] [] [] (.ip [wv (KW.getD t 0)]):=x_ip1 (n:=64) (e:=T32) (q:=1) (by kernel_rfl) (by kernel_rfl) h (by rw[Nat.mul_one];exact kw_at h)
end
end Go.Proofs.YtfdfbenejkmnlaaGreatDoor.E.Hs
namespace Go.Proofs.YtfdfbenejkmnlaaGreatDoor.E.Hs
open Go.RowKit Shw Ct
set_option linter.unusedVariables false
set_option linter.unusedSimpArgs false
section
variable {B b M:List UInt8} {x y z u:Wd} {s r:S8} {n i j k t:Nat}
theorem st8_get (h:i<8):(st8 s)[i]? =some (wv (S8.wd s i)):=by
 match i,h with
 |0,_=>rfl
 |1,_=>rfl
 |2,_=>rfl
 |3,_=>rfl
 |4,_=>rfl
 |5,_=>rfl
 |6,_=>rfl
 |7,_=>rfl
theorem byL_blk:((byL M).take (64*i+64)).drop (64*i)=byL ((M.drop (64*i)).take 64):=by
 unfold byL
 rw[List.drop_take,show 64*i+64 - 64*i=64 by omega,←List.map_drop,List.map_take]
end
end Go.Proofs.YtfdfbenejkmnlaaGreatDoor.E.Hs
namespace Go.Proofs.YtfdfbenejkmnlaaGreatDoor.E.Hs
open Go.RowKit Shw Ct
set_option linter.unusedVariables false
set_option linter.unusedSimpArgs false
section
variable {s b:List UInt8} {ps:List (List UInt8)} {W W':Nat→UInt8} {n i j k t tag:Nat} {v:UInt8}
theorem w16_len:(w16 W).length=16:=by unfold w16;simp
theorem w16_put (h1:W' i=v) (h2:∀ j,j≠i→W' j=W j):(w16 W).set i (bv v)=w16 W':=by
 apply List.ext_getElem?
 intro j
 rw[List.getElem?_set,w16_len]
 unfold w16
 by_cases e:i=j
 · subst e
   rw[if_pos rfl]
   by_cases g:i<16
   · rw[if_pos g,List.getElem?_map,List.getElem?_range g];show _=some (bv (W' i));rw[h1]
   · rw[if_neg g,List.getElem?_eq_none (by simp;omega)]
 · rw[if_neg e]
   by_cases g:j<16
   · rw[List.getElem?_map,List.getElem?_map,List.getElem?_range g];show some (bv (W j))=some (bv (W' j));rw[h2 j fun q=>e q.symm]
   · rw[List.getElem?_eq_none (by simp;omega),List.getElem?_eq_none (by simp;omega)]
def cP (W:Nat→UInt8) (i j:Nat):UInt8:=if j<i then W j else 0
theorem cP_put:(w16 (cP W i)).set i (bv (W i))=w16 (cP W (i+1)):=w16_put (if_pos (Nat.lt_succ_self i)) fun j h=>by
 unfold cP
 by_cases g:j<i
 · rw[if_pos g,if_pos (by omega)]
 · rw[if_neg g,if_neg (by omega)]
theorem cP_end:w16 (cP W 16)=w16 W:=by
 unfold w16
 refine List.map_congr_left fun i hi=> ?_
 unfold cP
 rw[if_pos (List.mem_range.1 hi)]
theorem w32_at (h:i<32):(w32 W)[i]? =some (bv (W i)):=by
 unfold w32
 rw[List.getElem?_map,List.getElem?_range h];rfl
theorem aTD (h:i<16) (b:Nat):Ext PP (mkIa TD) [.lp b 0,ni (i:Int)] [] [] (.lp b (0+i*1)):=x_ia (n:=16) (e:=T8b) (by kernel_rfl) (by kernel_rfl) h
theorem inU_pos (tag:Nat) (ps:List (List UInt8)):0<(inU tag ps).length:=by unfold inU;simp
end
end Go.Proofs.YtfdfbenejkmnlaaGreatDoor.E.Hs
namespace Go.Proofs.YtfdfbenejkmnlaaGreatDoor.E
open Go.RowKit
set_option linter.unusedVariables false
section
variable {P:Program} {w:World}
def ib (x:Int):V:= .k (.int .u8 x)
def bT (P:Program) (t:TypeId):Bool:=match P.underlying t with
 |some (.int .u8)=>true
 |_=>false
theorem bT_of {t:TypeId} (h:bT P t=true):P.underlying t=some (.int .u8):=by
 unfold bT at h
 split at h
 · assumption
 · cases h
theorem part_b {t:TypeId} (he:P.underlying t=some (.int .u8)) {xs:Array Value} {off:Nat} {v:Value} (hx:xs[off]? =some v):(part t xs off).run P w= .ok v w:=by simp[part,isAgg,run_under he,hx]
theorem eqItems_b (d:Nat) {e:TypeId} (he:P.underlying e=some (.int .u8)):∀ (n o:Nat) (xs ys:List Int) (pre pre':List Value),xs.length=n→ys.length=n→pre.length=o→pre'.length=o→(Op.eqItems (d+1) e 1 (pre++xs.map (Value.int .u8)).toArray (pre'++ys.map (Value.int .u8)).toArray (List.range' o n)).run P w= .ok (decide (xs=ys)) w
 |0,o,xs,ys,pre,pre',hx,hy,_,_=>by
  have hx:xs=[]:=List.length_eq_zero_iff.1 hx
  have hy:ys=[]:=List.length_eq_zero_iff.1 hy
  subst hx;subst hy
  simp[Op.eqItems]
 |n+1,o,x::xs,y::ys,pre,pre',hx,hy,hp,hp'=>by
  have ih:=eqItems_b d he n (o+1) xs ys (pre++[.int .u8 x]) (pre'++[.int .u8 y]) (by simpa using hx) (by simpa using hy) (by simp[hp]) (by simp[hp'])
  rw[List.append_assoc,List.append_assoc]at ih
  have e1:=part_b (w:=w) he (xs:=(pre++ .int .u8 x::xs.map (Value.int .u8)).toArray) (off:=o*1) (at_end (by omega))
  have e2:=part_b (w:=w) he (xs:=(pre'++ .int .u8 y::ys.map (Value.int .u8)).toArray) (off:=o*1) (at_end (by omega))
  have e3:=run_equalIn_int (P:=P) w d e .u8 .u8 x y he
  simp only[List.range'_succ,List.map_cons,Op.eqItems,Sem.run_bind,e1,e2,e3,Result.andThen_ok]
  by_cases hxy:x=y
  · subst hxy
    rw[if_neg (by simp)]
    simpa using ih
  · rw[if_pos (by simp[hxy])]
    simp[hxy]
 |n+1,o,[],ys,pre,pre',hx,_,_,_=>by simp at hx
 |n+1,o,x::xs,[],pre,pre',_,hy,_,_=>by simp at hy
def bOk (P:Program) (T:TypeId) (n:Nat):Bool:=match P.underlying T with
 |some (.array k e)=>Nat.beq k n&&(bT P e&&(Nat.beq (P.cellsOf e) 1&&(P.info? e).isSome))
 |_=>false
theorem kv_ib (l:List Int):(l.map ib).map kv=l.map (Value.int .u8):=by rw[List.map_map];rfl
theorem EqA.arrB {T:TypeId} {n:Nat} (h:bOk P T n=true) {xs ys:List Int} (hx:xs.length=n) (hy:ys.length=n):EqA P T (xs.map ib) (ys.map ib) (decide (xs=ys)):=fun w=>by
 unfold bOk at h
 split at h
 · rename_i k e hu
   simp only[Bool.and_eq_true]at h
   obtain⟨h1,h2,h3,h4⟩:=h
   have h1:=Nat.eq_of_beq_eq_true h1
   have h3:=Nat.eq_of_beq_eq_true h3
   subst h1
   obtain⟨i,hi⟩:=Option.isSome_iff_exists.1 h4
   rw[kv_ib,kv_ib]
   show(Op.equalIn 10000 T _ _).run P w=_
   rw[run_equalIn_array w 9999 _ _ hu hi,h3,List.range_eq_range']
   exact eqItems_b 9998 (bT_of h2) k 0 xs ys [] [] hx hy rfl rfl
 · cases h
end
namespace Hs
/-- Two digests are compared. -/
def dgE (W W':Nat→UInt8):Bool:=decide ((List.range 16).map (fun i=>((W i).toNat:Int))=(List.range 16).map (fun i=>((W' i).toNat:Int)))
theorem dgE_refl (W:Nat→UInt8):dgE W W=true:=decide_eq_true rfl
theorem w16_ib (W:Nat→UInt8):w16 W=((List.range 16).map (fun i=>((W i).toNat:Int))).map ib:=by
 unfold w16
 rw[List.map_map]
 rfl
theorem e_eqD (W W':Nat→UInt8):EqA PP TD (w16 W) (w16 W') (dgE W W'):=by
 rw[w16_ib,w16_ib]
 exact EqA.arrB (n:=16) (by kernel_rfl) (by simp) (by simp)
end Hs
end Go.Proofs.YtfdfbenejkmnlaaGreatDoor.E

