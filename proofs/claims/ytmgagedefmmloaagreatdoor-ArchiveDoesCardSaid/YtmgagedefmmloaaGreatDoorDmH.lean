/-
 ARCHIVES: chain, Clock, Heads.
-/
import Derived.Test.YtmgagedefmmloaaGreatDoorShR
import Derived.Test.YtmgagedefmmloaaGreatDoorEtD
import Derived.Test.YtmgagedefmmloaaGreatDoorCaA
import Derived.Test.YtmgagedefmmloaaGreatDoorDmD
import Derived.Test.YtmgagedefmmloaaGreatDoorShE
namespace Go.Proofs.YtmgagedefmmloaaGreatDoor.E.Hs
open Go.RowKit Shw Ct
set_option linter.unusedVariables false
set_option linter.unusedSimpArgs false
section
variable {B b:List UInt8} {x y z u:Wd} {n i j k t:Nat}
noncomputable abbrev fPd:Func:=fnOf PP 176
noncomputable def pdX (b:List UInt8) (j:Nat):St:=at_ fPd [(0,.sl (byL b)),(3,.ow 0)] [.rw T8b 1 (byL (b++padZ j))]
noncomputable def pdY (b:List UInt8) (i:Nat):St:=at_ fPd [(0,.sl (byL b)),(3,.ow 0),(4,uv (8*b.length)),(5,ni (i:Int))] [.rw T8b 1 (byL (b++padW b.length i))]
theorem bZ_next:byL (b++padZ j)++[[bv 0]]=byL (b++padZ (j+1)):=by
 rw[←byL_app,List.append_assoc,padZ_next,byL_app]
theorem bW_next:byL (b++padW n i)++[[bv (lenB n i)]]=byL (b++padW n (i+1)):=by
 rw[←byL_app,List.append_assoc,padW_next,byL_app]
theorem b1z (cs:List V) (h:cs∈byL b):cs.length=1∧cs.all one=true:=by
 obtain⟨c,_,rfl⟩:=List.mem_map.1 h
 exact⟨rfl,rfl⟩
theorem e_padded (b:List UInt8) (h0:0<b.length) (hn:b.length≤100000000000):Pure PP 176 [.sl (byL b)] (.o T8b 1 (byL (b++padU b.length))):=by
 have hz:=zerosN_lt b.length
 refine pf (by kernel_rfl) (.to mo_ [.mv 0 3] [0,3] [0] 1 [.aps [] (byL b) (byL b) 200000000000 1 rfl (by rw[byL_len];exact h0) (by rw[byL_len];omega) b1z,.app (byL b) [[bv 128]] (byL (b++padZ 0)) 200000000000 (byL_app b [128]) Nat.zero_lt_one (by rw[byL_len,List.length_append,padZ_len];omega)] (td':=lp fPd 0) (σ':=pdX b 0) ?_ (by kernel_rfl))
 refine Gd.loop (pdX b) (fun j=>j≤zerosN b.length) (fun j=>zerosN b.length - j) ?_ 0 (Nat.zero_le _)
 intro j hj ih
 by_cases g:j<zerosN b.length
 · have e13:ni ((byL (b++padZ j)).length:Int)=ni ((b.length+(j+1):Nat):Int):=by rw[byL_len,List.length_append,padZ_len]
   have c:(((b.length+(j+1)) % 64:Nat):Int) != 56:=by
    unfold zerosN at g
    simp
    omega
   exact .to mo_ [.mv 0 2] [0,3] [0] 1 [.eqv 13 _ _ e13,.eqv 14 _ _ (rem_n (n:=b.length+(j+1)) (by omega)),ye c,.app (byL (b++padZ j)) [[bv 0]] (byL (b++padZ (j+1))) 200000000000 bZ_next Nat.zero_lt_one (by rw[byL_len,List.length_append,padZ_len];omega)] (ih (j+1) g (by omega)) (by kernel_rfl)
 have hjz:j=zerosN b.length:=by omega
 subst hjz
 have e0:pdX b (zerosN b.length)=at_ fPd [(0,.sl (byL b)),(3,.ow 0)] [.rw T8b 1 (byL (b++padW b.length 0))]:=by unfold pdX;rw[padW_0]
 rw[e0]
 have e13:ni ((byL (b++padW b.length 0)).length:Int)=ni ((b.length+(zerosN b.length+1):Nat):Int):=by rw[byL_len,List.length_append,padW_len];congr 2;omega
 have c:((((b.length+(zerosN b.length+1)) % 64:Nat):Int) != 56)=false:=by
  have:(b.length+(zerosN b.length+1)) % 64=56:=by unfold zerosN;omega
  rw[this]
  rfl
 have e20:ni ((byL b).length:Int)=ni (b.length:Int):=by rw[byL_len]
 refine .to mo_ [] [0,3,4,5] [0] 1 [.eqv 13 _ _ e13,.eqv 14 _ _ (rem_n (n:=b.length+(zerosN b.length+1)) (by omega)),na c,.eqv 20 _ _ e20,.eqv 21 _ _ (cv_u b.length (by omega)),.eqv 22 _ _ (mul_u (n:=b.length) (by omega))] (td':=lp fPd 1) (σ':=pdY b 0) ?_ (by kernel_rfl)
 refine Gd.loop (pdY b) (fun j=>j≤8) (fun j=>8 - j) ?_ 0 (Nat.zero_le _)
 intro i hi ih
 by_cases g:i<8
 · exact .to mo_ [.mv 0 2] [0,3,4,5] [0] 1 [ye (t:=decide ((i:Int)<8)) (decide_eq_true (by omega)),.eqv 30 _ _ (mul_i (i:=i) (j:=8) (by omega) (by omega)),.eqv 31 _ _ (sub_i (i:=56) (j:=8*i) (by omega) (by omega)),.eqv 32 _ _ (shr_u (8*b.length) (56 - 8*i) (by omega)),.eqv 33 _ _ (u8_w (8*b.length / 2 ^ (56 - 8*i))),.app (byL (b++padW b.length i)) [[bv (lenB b.length i)]] (byL (b++padW b.length (i+1))) 200000000000 bW_next Nat.zero_lt_one (by rw[byL_len,List.length_append,padW_len];omega),inc 26 i (by omega)] (ih (i+1) g (by omega)) (by kernel_rfl)
 have h8:i=8:=by omega
 subst h8
 exact fi [na (t:=decide (((8:Nat):Int)<8)) (decide_eq_false (by omega))] (by kernel_rfl) (by kernel_rfl)
noncomputable abbrev fRs:Func:=fnOf PP 124
/-- The heads of the reference's loops: over the blocks, over the rounds, over the bytes. -/
noncomputable def rsX (M:List UInt8) (s:S8) (i:Nat):St:=at_ fRs [(2,.lp 0 0),(3,.lp 1 0),(4,.sl (byL M)),(5,ni ((64*i:Nat):Int))] [.bx T32b (w32 fun _=>0),.bx T8 (st8 s)]
noncomputable def rsY (M B:List UInt8) (s r:S8) (i t:Nat):St:=at_ fRs [(2,.lp 0 0),(3,.lp 1 0),(4,.sl (byL M)),(5,ni ((64*i:Nat):Int)),(6,.lp 2 0),(7,wv r.a),(8,wv r.b),(9,wv r.c),(10,wv r.d),(11,wv r.e),(12,wv r.f),(13,wv r.g),(14,wv r.h),(15,ni (t:Int))] [.bx T32b (w32 fun _=>0),.bx T8 (st8 s),.bx T64 (w64 (wS B 64 0))]
noncomputable def rsZ (s:S8) (i:Nat):St:=at_ fRs [(2,.lp 0 0),(3,.lp 1 0),(18,.lp 2 0),(19,ni (i:Int))] [.bx T32b (w32 fun _=>0),.bx T8 (st8 s),.bx T32b (w32 (wP s i))]
theorem kI (h:t<64):Ext PP (mkIa T64) [.ip (shaK.map gW),ni (t:Int)] [] [] (.ip [wv (KW.getD t 0)]):=x_ip1 (n:=64) (e:=T32) (q:=1) (by kernel_rfl) (by kernel_rfl) h (by rw[Nat.mul_one];exact kw_at h)
theorem rs_step (M B:List UInt8) (s r:S8) (i t:Nat) (g:t<64) {D:List V} (h:Gd PP 124 (.ag D) (lp fRs 1) (rsY M B s (r.round (KW.getD t 0) (wU B t)) i (t+1))):Gd PP 124 (.ag D) (lp fRs 1) (rsY M B s r i t):=by
 have n1:V.k (.int .u32 (bits .xor .u32 (wi r.e) 4294967295))=wv (~~~r.e):=by
  rw[show(4294967295:Int)=wi 0xffffffff#32 from by decide,w_xor,w_not]
  rfl
 have ld:Ext PP (mkLd T32) [.lp 2 (0+t*1)] [(2,.bx T64 (w64 (wS B 64 0)))] [] (wv (wU B t)):=ldS 2 g g
 let X:=r.h+bs1 r.e+chW r.e r.f r.g+KW.getD t 0+wU B t
 let Y:=bs0 r.a+maW r.a r.b r.c
 exact .to mo_ [] [2,3,4,5,6,7,8,9,10,11,12,13,14,15] [0,1,2] 3 [ye (t:=decide ((t:Int)<64)) (decide_eq_true (by omega)),cl (e_rotr r.e 6 (by omega)),cl (e_rotr r.e 11 (by omega)),fx 60 (rr 6 r.e) (rr 11 r.e),cl (e_rotr r.e 25 (by omega)),fx 63 (rr 6 r.e ^^^ rr 11 r.e) (rr 25 r.e),fa 64 r.h (bs1 r.e),fn_ 67 r.e r.f,.eqv 69 _ _ n1,fn_ 71 (~~~r.e) r.g,fx 72 (r.e &&& r.f) (~~~r.e &&& r.g),fa 73 (r.h+bs1 r.e) (chW r.e r.f r.g),.ext (some 75) _ _ _ _ _ (kI g),fa 77 (r.h+bs1 r.e+chW r.e r.f r.g) (KW.getD t 0),.ext (some 79) _ _ _ _ _ (a64 g 2),.ext (some 80) _ _ _ _ _ ld,fa 81 (r.h+bs1 r.e+chW r.e r.f r.g+KW.getD t 0) (wU B t),
  cl (e_rotr r.a 2 (by omega)),cl (e_rotr r.a 13 (by omega)),fx 86 (rr 2 r.a) (rr 13 r.a),cl (e_rotr r.a 22 (by omega)),fx 89 (rr 2 r.a ^^^ rr 13 r.a) (rr 22 r.a),fn_ 92 r.a r.b,fn_ 95 r.a r.c,fx 96 (r.a &&& r.b) (r.a &&& r.c),fn_ 99 r.b r.c,fx 100 ((r.a &&& r.b) ^^^ (r.a &&& r.c)) (r.b &&& r.c),fa 101 (bs0 r.a) (maW r.a r.b r.c),fa 107 r.d X,fa 113 X Y,inc 54 t (by omega)] h (by kernel_rfl)
end
end Go.Proofs.YtmgagedefmmloaaGreatDoor.E.Hs
namespace Go.Proofs.YtmgagedefmmloaaGreatDoor.E.Hs
open Go.RowKit Shw Ct
set_option linter.unusedVariables false
set_option linter.unusedSimpArgs false
section
variable {B b M:List UInt8} {x y z u:Wd} {s r:S8} {n i j k t:Nat}
theorem st8_get (h:i<8):(st8 s)[i]? =some (wv (S8.wd s i)):=by
 match i,h with
 |0,_=>rfl
 |1,_=>rfl
 |2,_=>rfl
 |3,_=>rfl
 |4,_=>rfl
 |5,_=>rfl
 |6,_=>rfl
 |7,_=>rfl
theorem rs_out (s:S8) (i:Nat) (hi:i<32) {D:List V} (h:Gd PP 124 (.ag D) (lp fRs 2) (rsZ s (i+1))):Gd PP 124 (.ag D) (lp fRs 2) (rsZ s i):=by
 have e53:V.k (.int .u32 ((wi (S8.wd s (i / 4))).fdiv (2 ^ (min (((24 - 8*(i % 4):Nat):Int)).toNat IntKind.u32.bits))))=wv ((S8.wd s (i / 4)) >>> (24 - 8*(i % 4))):=by rw[shr_v (by omega)];rfl
 have ld:Ext PP (mkLd T32) [.lp 1 (0+i / 4*1)] [(1,.bx T8 (st8 s))] [] (wv (S8.wd s (i / 4))):=lT8 1 T8 (st8_get (by omega))
 have st:Ext PP (mkSt T8b) [.lp 2 (0+i*1),bv (outU s i)] [(2,.bx T32b (w32 (wP s i)))] [(2,.bx T32b (w32 (wP s (i+1))))] .un:=sT32 2 T32b (by rw[w32_len];exact hi) wP_put
 exact .to mo_ [] [2,3,18,19] [0,1,2] 3 [ye (t:=decide ((i:Int)<32)) (decide_eq_true (by omega)),.eqv 153 _ _ (quo_i (i:=i) (by omega)),.ext (some 154) _ _ _ _ _ (aT8 (i:=i / 4) (by omega) 1),.ext (some 155) _ _ _ _ _ ld,.eqv 157 _ _ (rem_i (i:=i) (by omega)),.eqv 158 _ _ (mul_i (i:=i % 4) (j:=8) (by omega) (by omega)),.eqv 159 _ _ (sub_i (i:=24) (j:=8*(i % 4)) (by omega) (by omega)),.eqv 160 _ _ e53,.eqv 161 _ _ (u8_w ((S8.wd s (i / 4)) >>> (24 - 8*(i % 4))).toNat),.ext (some 162) _ _ _ _ _ (aT32 hi 2),.ext none _ _ _ _ _ st,inc 150 i (by omega)] h (by kernel_rfl)
theorem byL_blk:((byL M).take (64*i+64)).drop (64*i)=byL ((M.drop (64*i)).take 64):=by
 unfold byL
 rw[List.drop_take,show 64*i+64 - 64*i=64 by omega,←List.map_drop,List.map_take]
theorem rs_block (M:List UInt8) (s:S8) (i N:Nat) (hM:M.length=64*N) (hN:M.length≤200000000000) (hi:i<N) {D:List V} (h:Gd PP 124 (.ag D) (lp fRs 0) (rsX M (s.block KW ((M.drop (64*i)).take 64)) (i+1))):Gd PP 124 (.ag D) (lp fRs 0) (rsX M s i):=by
 have e25:ni ((byL M).length:Int)=ni ((64*N:Nat):Int):=by rw[byL_len,hM]
 have hB:((M.drop (64*i)).take 64).length=64:=by rw[List.length_take,List.length_drop];omega
 have hsl:=byL_blk (M:=M) (i:=i)
 generalize hq:(M.drop (64*i)).take 64=B at*
 have hz:∀ cs∈byL M,cs.length=1:=fun cs h=>(b1z cs h).1
 let R:Nat→S8:=S8.rounds KW (wordsU B 64) s
 refine .to mo_ [] [2,3,4,5,6,7,8,9,10,11,12,13,14,15] [0,1,2] 3 [.eqv 25 _ _ e25,ye (t:=decide (((64*i:Nat):Int)<((64*N:Nat):Int))) (decide_eq_true (by omega)),.eqv 32 _ _ (add_i (i:=64*i) (j:=64) (by omega) (by omega)),.slc (byL M) (64*i) (64*i+64) 1 (byL B) hsl (by rw[byL_len];omega) hz,cl (e_words B hB)] (td':=lp fRs 1) (σ':=rsY M B s s i 0) ?_ (by kernel_rfl)
 refine Gd.loop (fun t=>rsY M B s (R t) i t) (fun t=>t≤64) (fun t=>64 - t) ?_ 0 (Nat.zero_le _)
 intro t ht ih
 by_cases g:t<64
 · exact rs_step M B s (R t) i t g (ih (t+1) g (by omega))
 have ht:t=64:=by omega
 subst ht
 have hh:Gd PP 124 (.ag D) (lp fRs 0) (rsX M (s.add (R 64)) (i+1)):=h
 show Gd PP 124 (.ag D) (lp fRs 1) (rsY M B s (R 64) i 64)
 generalize R 64=r at*
 exact .to mo_ [] [2,3,4,5] [0,1] 2 [na (t:=decide (((64:Nat):Int)<64)) (decide_eq_false (by omega)),fa 117 s.a r.a,fa 121 s.b r.b,fa 125 s.c r.c,fa 129 s.d r.d,fa 133 s.e r.e,fa 137 s.f r.f,fa 141 s.g r.g,fa 145 s.h r.h,.eqv 28 _ _ (add_i (i:=64*i) (j:=64) (by omega) (by omega))] hh (by kernel_rfl)
/-- The reference's hash. -/
theorem e_rsum (b:List UInt8) (h0:0<b.length) (hn:b.length≤100000000000):Pure PP 124 [.sl (byL b)] (.ag (w32 (outU (shaS KW IV b)))):=by
 have hp:=padU_len b.length
 have hpl:(padU b.length).length=9+zerosN b.length:=by rw[←padW_8,padW_len];omega
 have hz:=zerosN_lt b.length
 have hpd:=(e_padded b h0 hn).ro
 obtain⟨N,hN⟩:∃ N,(b++padU b.length).length=64*N:=⟨(b++padU b.length).length / 64,by rw[List.length_append];omega⟩
 have hle:(b++padU b.length).length≤200000000000:=by rw[List.length_append];omega
 have hS:shaS KW IV b=S8.blocks KW IV (b++padU b.length) N:=by
  show S8.blocks KW IV (b++padU b.length) ((b++padU b.length).length / 64)=_
  rw[hN,show 64*N / 64=N by omega]
 rw[hS]
 generalize b++padU b.length=M at*
 refine pf (by kernel_rfl) (.to mo_ [] [2,3,4,5] [0,1] 2 [cl hpd] (td':=lp fRs 0) (σ':=rsX M IV 0) ?_ (by kernel_rfl))
 refine Gd.loop (fun i=>rsX M (S8.blocks KW IV M i) i) (fun i=>i≤N) (fun i=>N - i) ?_ 0 (Nat.zero_le _)
 intro i hi ih
 by_cases g:i<N
 · exact rs_block M _ i N hN hle g (ih (i+1) g (by omega))
 have hiN:i=N:=by omega
 subst hiN
 have e25:ni ((byL M).length:Int)=ni ((64*i:Nat):Int):=by rw[byL_len,hN]
 generalize S8.blocks KW IV M i=S
 refine .to mo_ [] [2,3,18,19] [0,1,2] 3 [.eqv 25 _ _ e25,na (t:=decide (((64*i:Nat):Int)<((64*i:Nat):Int))) (decide_eq_false (by omega))] (td':=lp fRs 2) (σ':=rsZ S 0) ?_ (by kernel_rfl)
 refine Gd.loop (rsZ S) (fun j=>j≤32) (fun j=>32 - j) ?_ 0 (Nat.zero_le _)
 intro j hj ih
 by_cases g:j<32
 · exact rs_out S j g (ih (j+1) g (by omega))
 have h9:j=32:=by omega
 subst h9
 rw[←wP_end]
 exact fi [na (t:=decide (((32:Nat):Int)<32)) (decide_eq_false (by omega))] (by kernel_rfl) (by kernel_rfl)
end
end Go.Proofs.YtmgagedefmmloaaGreatDoor.E.Hs
namespace Go.Proofs.YtmgagedefmmloaaGreatDoor.E.Hs
open Go.RowKit Shw Ct
set_option linter.unusedVariables false
set_option linter.unusedSimpArgs false
section
variable {s b:List UInt8} {ps:List (List UInt8)} {W W':Nat→UInt8} {n i j k t tag:Nat} {v:UInt8}
theorem w16_len:(w16 W).length=16:=by unfold w16;simp
theorem w16_put (h1:W' i=v) (h2:∀ j,j≠i→W' j=W j):(w16 W).set i (bv v)=w16 W':=by
 apply List.ext_getElem?
 intro j
 rw[List.getElem?_set,w16_len]
 unfold w16
 by_cases e:i=j
 · subst e
   rw[if_pos rfl]
   by_cases g:i<16
   · rw[if_pos g,List.getElem?_map,List.getElem?_range g];show _=some (bv (W' i));rw[h1]
   · rw[if_neg g,List.getElem?_eq_none (by simp;omega)]
 · rw[if_neg e]
   by_cases g:j<16
   · rw[List.getElem?_map,List.getElem?_map,List.getElem?_range g];show some (bv (W j))=some (bv (W' j));rw[h2 j fun q=>e q.symm]
   · rw[List.getElem?_eq_none (by simp;omega),List.getElem?_eq_none (by simp;omega)]
def cP (W:Nat→UInt8) (i j:Nat):UInt8:=if j<i then W j else 0
theorem cP_put:(w16 (cP W i)).set i (bv (W i))=w16 (cP W (i+1)):=w16_put (if_pos (Nat.lt_succ_self i)) fun j h=>by
 unfold cP
 by_cases g:j<i
 · rw[if_pos g,if_pos (by omega)]
 · rw[if_neg g,if_neg (by omega)]
theorem cP_end:w16 (cP W 16)=w16 W:=by
 unfold w16
 refine List.map_congr_left fun i hi=> ?_
 unfold cP
 rw[if_pos (List.mem_range.1 hi)]
theorem w32_at (h:i<32):(w32 W)[i]? =some (bv (W i)):=by
 unfold w32
 rw[List.getElem?_map,List.getElem?_range h];rfl
noncomputable abbrev fSt:Func:=fnOf PP 76
noncomputable def shX (W:Nat→UInt8) (i:Nat):St:=at_ fSt [(2,.lp 0 0),(3,.lp 1 0),(4,.lp 2 0),(5,ni (i:Int))] [.bx TD (w16 fun _=>0),.bx T32b (w32 W),.bx TD (w16 (cP W i))]
theorem aTD (h:i<16) (b:Nat):Ext PP (mkIa TD) [.lp b 0,ni (i:Int)] [] [] (.lp b (0+i*1)):=x_ia (n:=16) (e:=T8b) (by kernel_rfl) (by kernel_rfl) h
theorem e_short (b:List UInt8) (h0:0<b.length) (hn:b.length≤100000000000):Pure PP 76 [.sl (byL b)] (.ag (w16 (outU (shaS KW IV b)))):=by
 have hs:=e_rsum b h0 hn
 generalize outU (shaS KW IV b)=W at*
 refine pf (by kernel_rfl) (.to mo_ [] [2,3,4,5] [0,1,2] 3 [cl hs] (td':=lp fSt 0) (σ':=shX W 0) ?_ (by kernel_rfl))
 refine Gd.loop (shX W) (fun j=>j≤16) (fun j=>16 - j) ?_ 0 (Nat.zero_le _)
 intro j hj ih
 by_cases g:j<16
 · have ld:Ext PP (mkLd T8b) [.lp 1 (0+j*1)] [(1,.bx T32b (w32 W))] [] (bv (W j)):=x_ld (by kernel_rfl) (by rw[Nat.zero_add,Nat.mul_one];exact w32_at (by omega))
   have st:Ext PP (mkSt T8b) [.lp 2 (0+j*1),bv (W j)] [(2,.bx TD (w16 (cP W j)))] [(2,.bx TD (w16 (cP W (j+1))))] .un:=sT32 2 TD (by rw[w16_len];exact g) cP_put
   exact .to mo_ [] [2,3,4,5] [0,1,2] 3 [ye (t:=decide ((j:Int)<16)) (decide_eq_true (by omega)),.ext (some 15) _ _ _ _ _ (aT32 (i:=j) (by omega) 1),.ext (some 16) _ _ _ _ _ ld,.ext (some 17) _ _ _ _ _ (aTD g 2),.ext none _ _ _ _ _ st,inc 12 j (by omega)] (ih (j+1) g (by omega)) (by kernel_rfl)
 have h9:j=16:=by omega
 subst h9
 rw[←cP_end]
 exact fi [na (t:=decide (((16:Nat):Int)<16)) (decide_eq_false (by omega))] (by kernel_rfl) (by kernel_rfl)
theorem e_rbytes (s:List UInt8) (h0:0<s.length) (hn:s.length≤100000000000):Pure PP 123 [sV s] (.o 5 1 (byL (bsE s))):=by
 have h64:W.Is64 (s.length:Int):=by unfold W.Is64;omega
 have he:=W.enc_le (s.length:Int)
 have e4:ni ((⟨s.toArray⟩:ByteArray).size:Int)=ni (s.length:Int):=rfl
 have cv:Ext PP (mkCv 9 TB) [sV s] [] [] (.sl (byL s)):=x_s2b (by kernel_rfl) (e:=T8b) (by kernel_rfl) (by kernel_rfl) (by omega)
 exact tr [.eqv 4 _ _ e4,cl (e_rint h64),.ext (some 7) _ _ _ _ _ cv,.aps (byL (W.enc (s.length:Int))) (byL s) (byL (bsE s)) 200000000000 1 (byL_app _ _) (by rw[byL_len];exact h0) (by rw[byL_len];have:=bsE_len s;omega) b1z] (by kernel_rfl)
noncomputable abbrev fIn:Func:=fnOf PP 74
noncomputable def inX (tag:Nat) (ps:List (List UInt8)) (i:Nat):St:=at_ fIn [(1,.sl (stL ps)),(5,.ow 0),(6,ni (i:Int))] [.rw T8b 1 (byL (inU tag (ps.take i)))]
theorem e_input (tag:Nat) (ps:List (List UInt8)) (hn:ps.length≤1000000) (hps:∀ p∈ps,0<p.length∧p.length≤100000000) (hl:(inU tag ps).length≤100000000000):Pure PP 74 [ni (tag:Int),.sl (stL ps)] (.o T8b 1 (byL (inU tag ps))):=by
 have e12:ni ((stL ps).length:Int)=ni (ps.length:Int):=by unfold stL;rw[List.length_map]
 refine pf (by kernel_rfl) (.to mo_ [] [1,5,6] [0] 1 [.eqv 8 _ _ (u8_w tag)] (td':=lp fIn 0) (σ':=inX tag ps 0) ?_ (by kernel_rfl))
 refine Gd.loop (inX tag ps) (fun j=>j≤ps.length) (fun j=>ps.length - j) ?_ 0 (Nat.zero_le _)
 intro i hi ih
 by_cases g:i<ps.length
 · have hp:=hps _ (List.mem_of_getElem? (getD_lt (d:=[]) g))
   have hbl:=bsE_len (ps.getD i [])
   have hw:=(e_rbytes (ps.getD i []) hp.1 (by omega)).ro
   have hle:=inU_le (ps:=ps) tag (i+1)
   have hnx:byL (inU tag (ps.take i))++byL (bsE (ps.getD i []))=byL (inU tag (ps.take (i+1))):=by rw[byL_app,inU_next tag g]
   have nx:=ih (i+1) g (by omega)
   generalize hq:ps.getD i []=q at*
   have hat:(stL ps)[i]? =some [sV q]:=by rw[stL_at g,hq]
   exact .to mo_ [.mv 0 1] [1,5,6] [0] 1 [.eqv 12 _ _ e12,ye (t:=decide ((i:Int)<(ps.length:Int))) (decide_eq_true (by omega)),.sel _ _ _ hat,cl hw,.aps (byL (inU tag (ps.take i))) (byL (bsE q)) (byL (inU tag (ps.take (i+1)))) 200000000000 1 hnx (by rw[byL_len];omega) (by rw[byL_len];omega) b1z,inc 15 i (by omega)] nx (by kernel_rfl)
 · have hh:i=ps.length:=by omega
   subst hh
   unfold inX
   rw[List.take_length]
   exact fi [.eqv 12 _ _ e12,na (t:=decide ((ps.length:Int)<(ps.length:Int))) (decide_eq_false (by omega))] (by kernel_rfl) (by kernel_rfl)
theorem inU_pos (tag:Nat) (ps:List (List UInt8)):0<(inU tag ps).length:=by unfold inU;simp
/-- The reference's Of is the program's. -/
theorem e_rof (tag:Nat) (ps:List (List UInt8)) (hn:ps.length≤1000000) (hps:∀ p∈ps,0<p.length∧p.length≤100000000) (hl:(inU tag ps).length≤100000000000):Pure PP 75 [ni (tag:Int),.sl (stL ps)] (.ag (w16 (dgW tag ps))):=by
 have h1:=(e_input tag ps hn hps hl).ro
 have h2:=e_short (inU tag ps) (inU_pos tag ps) hl
 exact tr [cl h1,cl h2] (by kernel_rfl)
end
end Go.Proofs.YtmgagedefmmloaaGreatDoor.E.Hs
namespace Go.Proofs.YtmgagedefmmloaaGreatDoor.E
open Go.RowKit
set_option linter.unusedVariables false
section
variable {P:Program} {w:World}
def ib (x:Int):V:= .k (.int .u8 x)
def bT (P:Program) (t:TypeId):Bool:=match P.underlying t with
 |some (.int .u8)=>true
 |_=>false
theorem bT_of {t:TypeId} (h:bT P t=true):P.underlying t=some (.int .u8):=by
 unfold bT at h
 split at h
 · assumption
 · cases h
theorem part_b {t:TypeId} (he:P.underlying t=some (.int .u8)) {xs:Array Value} {off:Nat} {v:Value} (hx:xs[off]? =some v):(part t xs off).run P w= .ok v w:=by simp[part,isAgg,run_under he,hx]
theorem eqItems_b (d:Nat) {e:TypeId} (he:P.underlying e=some (.int .u8)):∀ (n o:Nat) (xs ys:List Int) (pre pre':List Value),xs.length=n→ys.length=n→pre.length=o→pre'.length=o→(Op.eqItems (d+1) e 1 (pre++xs.map (Value.int .u8)).toArray (pre'++ys.map (Value.int .u8)).toArray (List.range' o n)).run P w= .ok (decide (xs=ys)) w
 |0,o,xs,ys,pre,pre',hx,hy,_,_=>by
  have hx:xs=[]:=List.length_eq_zero_iff.1 hx
  have hy:ys=[]:=List.length_eq_zero_iff.1 hy
  subst hx;subst hy
  simp[Op.eqItems]
 |n+1,o,x::xs,y::ys,pre,pre',hx,hy,hp,hp'=>by
  have ih:=eqItems_b d he n (o+1) xs ys (pre++[.int .u8 x]) (pre'++[.int .u8 y]) (by simpa using hx) (by simpa using hy) (by simp[hp]) (by simp[hp'])
  rw[List.append_assoc,List.append_assoc]at ih
  have e1:=part_b (w:=w) he (xs:=(pre++ .int .u8 x::xs.map (Value.int .u8)).toArray) (off:=o*1) (at_end (by omega))
  have e2:=part_b (w:=w) he (xs:=(pre'++ .int .u8 y::ys.map (Value.int .u8)).toArray) (off:=o*1) (at_end (by omega))
  have e3:=run_equalIn_int (P:=P) w d e .u8 .u8 x y he
  simp only[List.range'_succ,List.map_cons,Op.eqItems,Sem.run_bind,e1,e2,e3,Result.andThen_ok]
  by_cases hxy:x=y
  · subst hxy
    rw[if_neg (by simp)]
    simpa using ih
  · rw[if_pos (by simp[hxy])]
    simp[hxy]
 |n+1,o,[],ys,pre,pre',hx,_,_,_=>by simp at hx
 |n+1,o,x::xs,[],pre,pre',_,hy,_,_=>by simp at hy
def bOk (P:Program) (T:TypeId) (n:Nat):Bool:=match P.underlying T with
 |some (.array k e)=>Nat.beq k n&&(bT P e&&(Nat.beq (P.cellsOf e) 1&&(P.info? e).isSome))
 |_=>false
theorem kv_ib (l:List Int):(l.map ib).map kv=l.map (Value.int .u8):=by rw[List.map_map];rfl
theorem EqA.arrB {T:TypeId} {n:Nat} (h:bOk P T n=true) {xs ys:List Int} (hx:xs.length=n) (hy:ys.length=n):EqA P T (xs.map ib) (ys.map ib) (decide (xs=ys)):=fun w=>by
 unfold bOk at h
 split at h
 · rename_i k e hu
   simp only[Bool.and_eq_true]at h
   obtain⟨h1,h2,h3,h4⟩:=h
   have h1:=Nat.eq_of_beq_eq_true h1
   have h3:=Nat.eq_of_beq_eq_true h3
   subst h1
   obtain⟨i,hi⟩:=Option.isSome_iff_exists.1 h4
   rw[kv_ib,kv_ib]
   show(Op.equalIn 10000 T _ _).run P w=_
   rw[run_equalIn_array w 9999 _ _ hu hi,h3,List.range_eq_range']
   exact eqItems_b 9998 (bT_of h2) k 0 xs ys [] [] hx hy rfl rfl
 · cases h
end
namespace Hs
/-- Two digests are compared. -/
def dgE (W W':Nat→UInt8):Bool:=decide ((List.range 16).map (fun i=>((W i).toNat:Int))=(List.range 16).map (fun i=>((W' i).toNat:Int)))
theorem dgE_refl (W:Nat→UInt8):dgE W W=true:=decide_eq_true rfl
theorem w16_ib (W:Nat→UInt8):w16 W=((List.range 16).map (fun i=>((W i).toNat:Int))).map ib:=by
 unfold w16
 rw[List.map_map]
 rfl
theorem e_eqD (W W':Nat→UInt8):EqA PP TD (w16 W) (w16 W') (dgE W W'):=by
 rw[w16_ib,w16_ib]
 exact EqA.arrB (n:=16) (by kernel_rfl) (by simp) (by simp)
end Hs
end Go.Proofs.YtmgagedefmmloaaGreatDoor.E

namespace Go.Proofs.YtmgagedefmmloaaGreatDoor.E.Ca
open Go.RowKit Hs
set_option linter.unusedVariables false
set_option linter.unusedSimpArgs false
section
variable {E:List UInt8} {q r:CQ} {L:List CQ} {i k n:Nat} {W:Nat→UInt8}
abbrev DG:Type:=Nat→UInt8
noncomputable def dgC (q:CQ):DG:=dgW 2 [encC q]
theorem inU_1 (tag:Nat) (E:List UInt8):(inU tag [E]).length≤E.length+10:=by
 have:=bsE_len E
 unfold inU
 simp
 omega
theorem inU_2 (tag:Nat) (E F:List UInt8):(inU tag [E,F]).length≤E.length+F.length+20:=by
 have:=bsE_len E
 have:=bsE_len F
 unfold inU
 simp
 omega
theorem e_dig (h:Sq q):Pure PP 110 [.ag (dQ q)] (.ag (w16 (dgC q))):=by
 have hl:=h.len
 have e:=Pure.ro (e_cenc h)
 have hi:=inU_1 2 (encC q)
 have o:=Hs.e_of 2 [encC q] (by omega) (by simp) (fun p hp=>by rw[List.mem_singleton.1 hp];omega) (by omega)
 unfold dgC
 generalize encC q=E at*
 exact tr [cl e,.str (byL E) E rfl,.ro,cl o] (by kernel_rfl)
theorem e_dig6 (h:Sq q):Pure PP 72 [.ag (dQ q)] (.ag (w16 (dgC q))):=by
 have hl:=h.len
 have e:=Pure.ro (e_cenc6 h)
 have hi:=inU_1 2 (encC q)
 have o:=Hs.e_rof 2 [encC q] (by simp) (fun p hp=>by rw[List.mem_singleton.1 hp];omega) (by omega)
 unfold dgC
 generalize encC q=E at*
 exact tr [cl e,.str (byL E) E rfl,.ro,cl o] (by kernel_rfl)
/-- A digest's bytes. -/
def tx (W:DG):List UInt8:=(List.range 16).map W
theorem tx_len:(tx W).length=16:=by unfold tx;simp
theorem tx_at (h:i<16):(tx W).getD i 0=W i:=by
 unfold tx
 rw[List.getD_eq_getElem?_getD,List.getElem?_map,List.getElem?_range h]
 rfl
/-- The next sum. -/
noncomputable def nxD (W:DG) (q:CQ):DG:=dgW 3 [tx W,tx (dgC q)]
def zD:DG:=fun _=>0
noncomputable def sumW (L:List CQ):DG:=L.foldl nxD zD
theorem sumW_next (h:L[k]? =some q):sumW (L.take (k+1))=nxD (sumW (L.take k)) q:=by
 unfold sumW
 rw[List.take_add_one,h,List.foldl_append]
 rfl
theorem tx_cells (b:Nat):∀ i,i<(tx W).length→(w16 W)[0+i]? =some (bv ((tx W).getD i 0)):=fun i hi=>by
 rw[tx_len]at hi
 rw[Nat.zero_add,tx_at hi]
 unfold w16
 rw[List.getElem?_map,List.getElem?_range hi]
 rfl
theorem d_sl (b:Nat):Ext PP (mkSb0 TD) [.lp b 0] [] [] (.bs b 0 16 16):=x_bs0 (n:=16) (e:=T8b) (by kernel_rfl) (by kernel_rfl) (by omega)
theorem d_st (W:DG) (b:Nat):Ext PP (mkCv 96 9) [.bs b 0 16 16] [(b,.bx TD (w16 W))] [] (sV (tx W)):=by
 have h:=x_bss (P:=PP) (S:= 96) (D:= 9) (el:=T8b) (b:=b) (o:=0) (c:=16) (U:=TD) (cells:=w16 W) (s:=tx W) (by kernel_rfl) (by kernel_rfl) (by kernel_rfl) (tx_cells b)
 rw[tx_len]at h
 exact h
theorem e_of3 (W W':DG):Pure PP 111 [ni ((3:Nat):Int),.sl [[sV (tx W)],[sV (tx W')]]] (.ag (w16 (dgW 3 [tx W,tx W']))):=by
 have hi:=inU_2 3 (tx W) (tx W')
 rw[tx_len,tx_len]at hi
 exact Hs.e_of 3 [tx W,tx W'] (by omega) (by simp) (fun p hp=>by
  simp only[List.mem_cons,List.not_mem_nil,or_false]at hp
  rcases hp with rfl|rfl<;>rw[tx_len]<;>omega) (by omega)
theorem e_sum1 (h:Sq q) (W:DG):PureT PP 109 [.bx TD (w16 W)] [.ag (dQ q),.lp 0 0] (.io 1 [.bx TD (w16 (nxD W q))] (.tu [])):=by
 have d:=e_dig h
 have o:=e_of3 W (dgC q)
 have s1:=d_st W 0
 have s2:=d_st (dgC q) 2
 unfold nxD
 generalize tx W=A at*
 generalize tx (dgC q)=B at*
 generalize dgC q=C at*
 generalize dgW 3 [A,B]=D at*
 exact trT [cl d,.ext (some 6) _ _ _ _ _ (d_sl 0),.ext (some 7) _ _ _ _ _ s1,.ext (some 8) _ _ _ _ _ (d_sl 2),.ext (some 9) _ _ _ _ _ s2,.ro,cl o] (by kernel_rfl)
noncomputable abbrev fSm:Func:=fnOf PP 60
noncomputable def smX (L:List CQ) (k:Nat) (W:DG):St:=at_ fSm [(2,.lp 0 0),(3,.lp 1 0),(4,.cl 109 [.lp 1 0]),(8,slQ L),(9,ni L.length),(10,ni k)] [.bx TD (w16 zD),.bx TD (w16 W)]
theorem e_sumA (hL:∀ q∈L,Sq q) (hn:L.length≤100000):Pure PP 60 [slQ L] (.ag (w16 (sumW L))):=by
 have ml:ni ((L.map dQ).length:Int)=ni (L.length:Int):=by rw[List.length_map]
 refine pf (by kernel_rfl) (.to mo_ [] [2,3,4,8,9,10] [0,1] 2 [.eqv 9 _ _ ml] (td':=lp fSm 0) (σ':=smX L 0 zD) ?_ (by kernel_rfl))
 refine Gd.loop (fun x:Nat×DG=>smX L x.1 x.2) (fun x=>x.1≤L.length∧x.2=sumW (L.take x.1)) (fun x=>L.length - x.1) ?_ (0,zD) ⟨Nat.zero_le _,rfl⟩
 rintro ⟨k,W⟩ ⟨hk,hW⟩ ih
 simp only at hk hW ih
 by_cases h:k<L.length
 · have lt:decide ((k:Int)<(L.length:Int))=true:=decide_eq_true (by omega)
   obtain⟨q,hq⟩:∃ q,L[k]? =some q:=⟨_,List.getElem?_eq_getElem h⟩
   have s1:=dQ_at hq
   have c:=e_sum1 (hL q (List.mem_of_getElem? hq)) W
   have nx:=ih (k+1,nxD W q) ⟨h,by simp only;rw[sumW_next hq,hW]⟩ (by simp only;omega)
   unfold smX at nx⊢
   unfold slQ at*
   exact .to mo_ [] [2,3,4,8,9,10] [0,1] 2 [ye lt,.sel _ _ _ s1,.lend _ _ _ _ [1] c,inc 17 k (by omega)] nx (by kernel_rfl)
 · have lt:decide ((k:Int)<(L.length:Int))=false:=decide_eq_false (by omega)
   have hk2:k=L.length:=by omega
   subst hk2
   rw[List.take_length]at hW
   subst hW
   exact fi [na lt] (by kernel_rfl) (by kernel_rfl)
end
end Go.Proofs.YtmgagedefmmloaaGreatDoor.E.Ca
namespace Go.Proofs.YtmgagedefmmloaaGreatDoor.E.Ca
open Go.RowKit Hs
set_option linter.unusedVariables false
set_option linter.unusedSimpArgs false
section
variable {L M C A:List CQ} {p:Int×Int} {q r c:CQ} {b:Int} {i j k n:Nat} {cs:List Int} {t:Int}
/-- An archive is not nil. -/
noncomputable def pnA (t b:Nat):F_:= .ext (some t) (mkEq .eql TPA TPA) [.lp b 0,.k (.pointer none)] [] [] (.k (.bool false)) (x_pn (e:=TArc) (by kernel_rfl) (by kernel_rfl) b 0)
noncomputable abbrev fCh:Func:=fnOf PP 61
noncomputable def cX (cs:List Int) (M:List CQ) (b:Int) (n:Nat) (A:List CQ) (k:Nat):St:=at_ fCh [(0,.lp 2 0),(1,ni b),(7,.ow 3),(9,ni n),(10,ni k)] [.rw TI 1 (zs cs),.mp (mpL M),.bx TArc [.ow 0,.nm 1],.rw TCl 35 (A.map dQ)]
abbrev hB_ (cs:List Int) (M A:List CQ):List HO:=[.rw TI 1 (zs cs),.mp (mpL M),.bx TArc [.ow 0,.nm 1],.rw TCl 35 (A.map dQ)]
theorem e_chain (hC:∀ (k:Nat) (q:CQ),C[k]? =some q→fnd M (b,(k:Int))=some q) (hn:C.length≤1000):PureT PP 61 (hA_ cs M) [.lp 2 0,ni b,ni (C.length:Int)] (.io 3 (hB_ cs M C) (.ow 3)):=by
 refine pfT (by kernel_rfl) (.to mo_ [.ow 7 (.rw TCl 35 [])] [0,1,7,9,10] [0,1,2,3] 4 [] (td':=lp fCh 0) (σ':=cX cs M b C.length (C.take 0) 0) ?_ (by kernel_rfl))
 refine Gd.loop (fun k=>cX cs M b C.length (C.take k) k) (fun k=>k≤C.length) (fun k=>C.length - k) ?_ 0 (Nat.zero_le _)
 intro k hk ih
 by_cases h:k<C.length
 · have lt:decide ((k:Int)<(C.length:Int))=true:=decide_eq_true (by omega)
   obtain⟨q,hq⟩:∃ q,C[k]? =some q:=⟨_,List.getElem?_eq_getElem h⟩
   have l1:=lk1 (ok:=false) (b:=1) (hC k q hq)
   have nx:=ih (k+1) h (by omega)
   have ap:(C.take k).map dQ++[dQ q]=(C.take (k+1)).map dQ:=by rw[List.take_add_one,hq,List.map_append];rfl
   have al:((C.take (k+1)).map dQ).length≤2000:=by rw[List.length_map,List.length_take];omega
   unfold cX at nx⊢
   generalize mpL M=MM at*
   generalize (C.take k).map dQ=R at*
   generalize (C.take (k+1)).map dQ=R2 at*
   exact .to mo_ [.mv 3 5] [0,1,7,9,10] [0,1,2,3] 4 [ye lt,nk 15 2,.ext (some 21) _ _ _ _ _ l1,.app _ _ _ 2000 ap (Nat.zero_lt_succ _) al,inc 24 k (by omega)] nx (by kernel_rfl)
 · have lt:decide ((k:Int)<(C.length:Int))=false:=decide_eq_false (by omega)
   rw[List.take_of_length_le (by omega)]
   unfold cX hB_
   generalize mpL M=MM at*
   exact fi [na lt] (by kernel_rfl) (by kernel_rfl)
theorem mx_ (x y:Int):ni (if y>x then y else x)=ni (max x y):=by
 congr 1
 rw[Int.max_def]
 split<;>split<;>omega
/-- The clock so far. -/
def clkP (L:List CQ):Nat→Int
 |0=>0
 |k+1=>match (chn L (k:Int)).getLast? with
   |some q=>max (clkP L k) q.tick
   |none=>clkP L k
noncomputable abbrev fCk:Func:=fnOf PP 44
noncomputable def kX (n:Nat) (L:List CQ) (t:Int) (k:Nat):St:=at_ fCk [(0,.lp 2 0),(3,ni t),(11,.ow 0),(12,ni n),(13,ni k)] (hA_ (cnts n L) L)
theorem e_clock (ha:Arc n L):PureT PP 44 (hA_ (cnts n L) L) [.lp 2 0] (.io 3 (hA_ (cnts n L) L) (ni (clkP L n))):=by
 have n1:=ha.n1
 have ln:ni ((zs (cnts n L)).length:Int)=ni (n:Int):=by unfold zs;rw[List.length_map,cnts_len]
 refine pfT (by kernel_rfl) (.to mo_ [] [0,3,11,12,13] [0,1,2] 3 [pnA 7 2,nf,nk 9 2,.eqv 12 _ _ ln] (td':=lp fCk 0) (σ':=kX n L (clkP L 0) 0) ?_ (by kernel_rfl))
 refine Gd.loop (fun k=>kX n L (clkP L k) k) (fun k=>k≤n) (fun k=>n - k) ?_ 0 (Nat.zero_le _)
 intro k hk ih
 by_cases h:k<n
 · have lt:decide ((k:Int)<(n:Int))=true:=decide_eq_true (by omega)
   have s1:=cnts_at (L:=L) h
   have nx:=ih (k+1) h (by omega)
   have cl_:=chn_le L (k:Int)
   have len:=ha.len
   cases hg:(chn L (k:Int)).getLast? with
   |none=>
    have h0:chn L (k:Int)=[]:=List.getLast?_eq_none_iff.1 hg
    have e:clkP L (k+1)=clkP L k:=by rw[clkP,hg]
    rw[e]at nx
    rw[h0]at s1
    unfold kX hA_ at nx⊢
    generalize mpL L=M at*
    generalize zs (cnts n L)=Z at*
    generalize clkP L k=t at*
    exact .to mo_ [] [0,3,11,12,13] [0,1,2] 3 [ye lt,.sel _ _ _ s1,.sel _ _ _ s1,nf,inc 32 k (by omega)] nx (by kernel_rfl)
   |some q=>
    have e:clkP L (k+1)=max (clkP L k) q.tick:=by rw[clkP,hg]
    rw[e]at nx
    have hl:0<(chn L (k:Int)).length:=by
     rcases Nat.eq_zero_or_pos (chn L (k:Int)).length with h0|h0
     · rw[List.length_eq_zero_iff.1 h0]at hg;cases hg
     · exact h0
    have hq:(chn L (k:Int))[(chn L (k:Int)).length - 1]? =some q:=by rw[←List.getLast?_eq_getElem?];exact hg
    have l1:=lk1 (ok:=false) (b:=1) (fnd_chn ha hq)
    have gt:decide (((chn L (k:Int)).length:Int)>0)=true:=decide_eq_true (by omega)
    generalize (chn L (k:Int)).length=m at*
    unfold kX hA_ at nx⊢
    generalize mpL L=M at*
    generalize zs (cnts n L)=Z at*
    generalize clkP L k=t at*
    exact .to mo_ [] [0,3,11,12,13] [0,1,2] 3 [ye lt,.sel _ _ _ s1,.sel _ _ _ s1,ye gt,nk 22 2,wq 27 ((m:Int) - 1) ((m - 1:Nat):Int) (by omega),.ext (some 29) _ _ _ _ _ l1,.eqv 31 _ _ (mx_ t q.tick),inc 32 k (by omega)] nx (by kernel_rfl)
 · have lt:decide ((k:Int)<(n:Int))=false:=decide_eq_false (by omega)
   have:k=n:=by omega
   subst this
   unfold kX hA_
   generalize mpL L=M at*
   exact fi [na lt] (by kernel_rfl) (by kernel_rfl)
/-- A head's cells. -/
noncomputable def hdV (x:Int×DG):List V:=ni x.1::w16 x.2
noncomputable def hdsL (n:Nat) (L:List CQ):List (Int×DG):=(List.range n).map fun(k:Nat)=>(((chn L (k:Int)).length:Int),sumW (chn L (k:Int)))
abbrev THd:Nat:= 66
noncomputable abbrev fHd:Func:=fnOf PP 15
abbrev hC_ (cs:List Int) (M:List CQ) (R:List (List V)):List HO:=[.rw TI 1 (zs cs),.mp (mpL M),.bx TArc [.ow 0,.nm 1],.rw THd 17 R]
noncomputable def hX (n:Nat) (L:List CQ) (k:Nat):St:=at_ fHd [(0,.lp 2 0),(3,.ow 3),(11,.ow 0),(12,ni n),(13,ni k)] (hC_ (cnts n L) L ((hdsL k L).map hdV))
theorem chn_sq (ha:Arc n L):∀ q∈chn L b,Sq q:=fun q hq=>ha.sq q (chn_mem.1 hq).1
theorem hd_go {D:List HO×V} (ha:Arc n L) (fin:Gd PP 15 (.io 3 D.1 D.2) (lp fHd 0) (hX n L n)):PureT PP 15 (hA_ (cnts n L) L) [.lp 2 0] (.io 3 D.1 D.2):=by
 have n1:=ha.n1
 have ln:ni ((zs (cnts n L)).length:Int)=ni (n:Int):=by unfold zs;rw[List.length_map,cnts_len]
 refine pfT (by kernel_rfl) (.to mo_ [.ow 3 (.rw THd 17 [])] [0,3,11,12,13] [0,1,2,3] 4 [pnA 7 2,nf,nk 9 2,.eqv 12 _ _ ln] (td':=lp fHd 0) (σ':=hX n L 0) ?_ (by kernel_rfl))
 refine Gd.loop (fun k=>hX n L k) (fun k=>k≤n) (fun k=>n - k) ?_ 0 (Nat.zero_le _)
 intro k hk ih
 by_cases h:k<n
 · have lt:decide ((k:Int)<(n:Int))=true:=decide_eq_true (by omega)
   have s1:=cnts_at (L:=L) h
   have nx:=ih (k+1) h (by omega)
   have cl_:=chn_le L (k:Int)
   have len:=ha.len
   have ch:=e_chain (cs:=cnts n L) (M:=L) (b:=(k:Int)) (C:=chn L (k:Int)) (fun j q hq=>fnd_chn ha hq) (by omega)
   have sm:=e_sumA (L:=chn L (k:Int)) (chn_sq ha) (by omega)
   have ap:(hdsL k L).map hdV++[hdV (((chn L (k:Int)).length:Int),sumW (chn L (k:Int)))]=(hdsL (k+1) L).map hdV:=by
    unfold hdsL
    rw[List.range_succ,List.map_append,List.map_append]
    rfl
   have al:((hdsL (k+1) L).map hdV).length≤2000:=by unfold hdsL;rw[List.length_map,List.length_map,List.length_range];omega
   unfold hdV at ap al
   unfold hX hC_ at nx⊢
   unfold hA_ hB_ at ch
   unfold slQ at sm
   generalize sumW (chn L (k:Int))=W at*
   generalize (chn L (k:Int)).map dQ=CC at*
   generalize (chn L (k:Int)).length=m at*
   generalize mpL L=M at*
   generalize zs (cnts n L)=Z at*
   generalize List.map (fun x:Int×DG=>ni x.1::w16 x.2) (hdsL k L)=R at*
   generalize List.map (fun x:Int×DG=>ni x.1::w16 x.2) (hdsL (k+1) L)=R2 at*
   exact .to mo_ [.mv 3 6] [0,3,11,12,13] [0,1,2,3] 4 [ye lt,.sel _ _ _ s1,.sel _ _ _ s1,.lend _ _ _ _ [0,1,2] ch,cl sm,.app _ _ _ 2000 ap (Nat.zero_lt_succ _) al,inc 28 k (by omega)] nx (by kernel_rfl)
 · have:k=n:=by omega
   subst this
   exact fin
theorem e_heads (ha:Arc n L):PureT PP 15 (hA_ (cnts n L) L) [.lp 2 0] (.io 3 (hC_ (cnts n L) L ((hdsL n L).map hdV)) (.ow 3)):=by
 refine hd_go (D:=(hC_ (cnts n L) L ((hdsL n L).map hdV),.ow 3)) ha ?_
 have lt:decide ((n:Int)<(n:Int))=false:=decide_eq_false (by omega)
 unfold hX hC_
 generalize mpL L=M at*
 exact fi [na lt] (by kernel_rfl) (by kernel_rfl)
end
end Go.Proofs.YtmgagedefmmloaaGreatDoor.E.Ca
