/-
 CODES OF NUMBERS, by the engine: lists of the reference, integers and rationals of both.
-/
import Derived.Test.YtfdfbenejkmnlaaGreatDoorEoS
import Derived.Test.YtfdfbenejkmnlaaGreatDoorCaA
import Derived.Test.YtfdfbenejkmnlaaGreatDoorCdA
import Derived.Test.YtfdfbenejkmnlaaGreatDoorDrA
namespace Go.Proofs.YtfdfbenejkmnlaaGreatDoor.E
open Go.RowKit
set_option linter.unusedVariables false
set_option linter.unusedSimpArgs false
def u8v (b:UInt8):V:= .k (.int .u8 (b.toNat:Int))
def u64 (m:Nat):V:= .k (.int .u64 (m:Int))
section
variable {a b l:List UInt8} {i:Nat} {c:UInt8}
theorem byL_app (a b:List UInt8):byL a++byL b=byL (a++b):=List.map_append.symm
theorem byL_len (a:List UInt8):(byL a).length=a.length:=List.length_map ..
theorem byL_at (h:l[i]? =some c):(byL l)[i]? =some [u8v c]:=by unfold byL;rw[List.getElem?_map,h];rfl
theorem byL_ok (a:List UInt8):∀ cs∈byL a,cs.length=1∧cs.all one=true:=fun cs h=>by
 obtain⟨x,_,rfl⟩:=List.mem_map.1 h
 exact⟨rfl,rfl⟩
theorem byL_k (a:List UInt8):∀ cs∈byL a,cs.all isK=true:=fun cs h=>by
 obtain⟨x,_,rfl⟩:=List.mem_map.1 h
 rfl
end
noncomputable abbrev fwI:Func:=fnOf PP 118
section
variable {n:Int} {k:Nat} {l:List UInt8}
theorem fdiv_256 (M j:Nat):(M:Int).fdiv (2 ^ (8*j))=((M / 256 ^ j:Nat):Int):=by
 rw[Int.fdiv_eq_ediv_of_nonneg _ (by exact Int.le_of_lt (Int.pow_pos (by decide)))]
 exact W.div256 M j
/-- A byte of the number, under the flip. -/
theorem wI_byte (n:Int) (j:Nat):bits BinOp.xor IntKind.u8 (IntKind.u8.wrap ((W.mag n:Int).fdiv (2 ^ (8*j)))) (W.fl (W.neg n))=((W.fx (W.neg n) (UInt8.ofNat (W.mag n / 256 ^ j))).toNat:Int):=by
 rw[fdiv_256,W.wrap_u8_nat]
 exact W.xor_fl _ _
def bI (n:Int) (j:Nat):UInt8:=W.fx (W.neg n) (UInt8.ofNat (W.mag n / 256 ^ j))
theorem wI_take {l:List UInt8} {j:Nat} (hk:W.wid (W.mag n)=k) (hj:j+1≤k) (e:(W.enc n).take (k - (j+1)+1)=l):(W.enc n).take (k - j+1)=l++[bI n j]:=by
 have h:=W.enc_step n hk (j:=j+1) (by omega) hj
 rw[e]at h
 exact h
theorem take9 (n:Int) (i:Nat):((W.enc n).take i).length≤9:=by have:=(W.enc_le n).2;rw[List.length_take];omega
def wIs (n:Int):List (Nat×V):=[(3,u64 (W.mag n)),(4,.k (.int .u8 (W.fl (W.neg n))))]
theorem wI_t0 (hk:W.wid (W.mag n)=k) (e:(W.enc n).take (k - 0+1)=l):Gd PP 118 (.o 5 1 (byL (W.enc n))) (lp fwI 1) (at_ fwI (wIs n++[(6,.ow 0),(7,ni (-1))]) [.rw 5 1 (byL l)]):=by
 rw[Nat.sub_zero,W.enc_all n hk]at e
 subst e
 exact fi [nf] (by kernel_rfl) (by kernel_rfl)
theorem wI_t1 (hk:W.wid (W.mag n)=k) (hj:1≤k) (e:(W.enc n).take (k - 1+1)=l):Gd PP 118 (.o 5 1 (byL (W.enc n))) (lp fwI 1) (at_ fwI (wIs n++[(6,.ow 0),(7,ni (0))]) [.rw 5 1 (byL l)]):=by
 have e2:=wI_take (j:=0) hk hj e
 have h9:=take9 n (k - 0+1)
 rw[e2]at h9
 exact .to mo_ [.mv 0 2] [3,4,6,7] [0] 1 [yt,.eqv 43 (.k (.int .u8 (bits BinOp.xor IntKind.u8 (IntKind.u8.wrap ((W.mag n:Int).fdiv (2 ^ (8*0)))) (W.fl (W.neg n))))) (u8v (bI n 0)) (by rw[wI_byte n 0];rfl),.app (byL l) (byL [bI n 0]) (byL (l++[bI n 0])) 100 (byL_app _ _) Nat.zero_lt_one (by rw[byL_len];omega)] (wI_t0 hk e2) (by kernel_rfl)
theorem wI_t2 (hk:W.wid (W.mag n)=k) (hj:2≤k) (e:(W.enc n).take (k - 2+1)=l):Gd PP 118 (.o 5 1 (byL (W.enc n))) (lp fwI 1) (at_ fwI (wIs n++[(6,.ow 0),(7,ni (1))]) [.rw 5 1 (byL l)]):=by
 have e2:=wI_take (j:=1) hk hj e
 have h9:=take9 n (k - 1+1)
 rw[e2]at h9
 exact .to mo_ [.mv 0 2] [3,4,6,7] [0] 1 [yt,.eqv 43 (.k (.int .u8 (bits BinOp.xor IntKind.u8 (IntKind.u8.wrap ((W.mag n:Int).fdiv (2 ^ (8*1)))) (W.fl (W.neg n))))) (u8v (bI n 1)) (by rw[wI_byte n 1];rfl),.app (byL l) (byL [bI n 1]) (byL (l++[bI n 1])) 100 (byL_app _ _) Nat.zero_lt_one (by rw[byL_len];omega)] (wI_t1 hk (by omega) e2) (by kernel_rfl)
theorem wI_t3 (hk:W.wid (W.mag n)=k) (hj:3≤k) (e:(W.enc n).take (k - 3+1)=l):Gd PP 118 (.o 5 1 (byL (W.enc n))) (lp fwI 1) (at_ fwI (wIs n++[(6,.ow 0),(7,ni (2))]) [.rw 5 1 (byL l)]):=by
 have e2:=wI_take (j:=2) hk hj e
 have h9:=take9 n (k - 2+1)
 rw[e2]at h9
 exact .to mo_ [.mv 0 2] [3,4,6,7] [0] 1 [yt,.eqv 43 (.k (.int .u8 (bits BinOp.xor IntKind.u8 (IntKind.u8.wrap ((W.mag n:Int).fdiv (2 ^ (8*2)))) (W.fl (W.neg n))))) (u8v (bI n 2)) (by rw[wI_byte n 2];rfl),.app (byL l) (byL [bI n 2]) (byL (l++[bI n 2])) 100 (byL_app _ _) Nat.zero_lt_one (by rw[byL_len];omega)] (wI_t2 hk (by omega) e2) (by kernel_rfl)
theorem wI_t4 (hk:W.wid (W.mag n)=k) (hj:4≤k) (e:(W.enc n).take (k - 4+1)=l):Gd PP 118 (.o 5 1 (byL (W.enc n))) (lp fwI 1) (at_ fwI (wIs n++[(6,.ow 0),(7,ni (3))]) [.rw 5 1 (byL l)]):=by
 have e2:=wI_take (j:=3) hk hj e
 have h9:=take9 n (k - 3+1)
 rw[e2]at h9
 exact .to mo_ [.mv 0 2] [3,4,6,7] [0] 1 [yt,.eqv 43 (.k (.int .u8 (bits BinOp.xor IntKind.u8 (IntKind.u8.wrap ((W.mag n:Int).fdiv (2 ^ (8*3)))) (W.fl (W.neg n))))) (u8v (bI n 3)) (by rw[wI_byte n 3];rfl),.app (byL l) (byL [bI n 3]) (byL (l++[bI n 3])) 100 (byL_app _ _) Nat.zero_lt_one (by rw[byL_len];omega)] (wI_t3 hk (by omega) e2) (by kernel_rfl)
theorem wI_t5 (hk:W.wid (W.mag n)=k) (hj:5≤k) (e:(W.enc n).take (k - 5+1)=l):Gd PP 118 (.o 5 1 (byL (W.enc n))) (lp fwI 1) (at_ fwI (wIs n++[(6,.ow 0),(7,ni (4))]) [.rw 5 1 (byL l)]):=by
 have e2:=wI_take (j:=4) hk hj e
 have h9:=take9 n (k - 4+1)
 rw[e2]at h9
 exact .to mo_ [.mv 0 2] [3,4,6,7] [0] 1 [yt,.eqv 43 (.k (.int .u8 (bits BinOp.xor IntKind.u8 (IntKind.u8.wrap ((W.mag n:Int).fdiv (2 ^ (8*4)))) (W.fl (W.neg n))))) (u8v (bI n 4)) (by rw[wI_byte n 4];rfl),.app (byL l) (byL [bI n 4]) (byL (l++[bI n 4])) 100 (byL_app _ _) Nat.zero_lt_one (by rw[byL_len];omega)] (wI_t4 hk (by omega) e2) (by kernel_rfl)
theorem wI_t6 (hk:W.wid (W.mag n)=k) (hj:6≤k) (e:(W.enc n).take (k - 6+1)=l):Gd PP 118 (.o 5 1 (byL (W.enc n))) (lp fwI 1) (at_ fwI (wIs n++[(6,.ow 0),(7,ni (5))]) [.rw 5 1 (byL l)]):=by
 have e2:=wI_take (j:=5) hk hj e
 have h9:=take9 n (k - 5+1)
 rw[e2]at h9
 exact .to mo_ [.mv 0 2] [3,4,6,7] [0] 1 [yt,.eqv 43 (.k (.int .u8 (bits BinOp.xor IntKind.u8 (IntKind.u8.wrap ((W.mag n:Int).fdiv (2 ^ (8*5)))) (W.fl (W.neg n))))) (u8v (bI n 5)) (by rw[wI_byte n 5];rfl),.app (byL l) (byL [bI n 5]) (byL (l++[bI n 5])) 100 (byL_app _ _) Nat.zero_lt_one (by rw[byL_len];omega)] (wI_t5 hk (by omega) e2) (by kernel_rfl)
theorem wI_t7 (hk:W.wid (W.mag n)=k) (hj:7≤k) (e:(W.enc n).take (k - 7+1)=l):Gd PP 118 (.o 5 1 (byL (W.enc n))) (lp fwI 1) (at_ fwI (wIs n++[(6,.ow 0),(7,ni (6))]) [.rw 5 1 (byL l)]):=by
 have e2:=wI_take (j:=6) hk hj e
 have h9:=take9 n (k - 6+1)
 rw[e2]at h9
 exact .to mo_ [.mv 0 2] [3,4,6,7] [0] 1 [yt,.eqv 43 (.k (.int .u8 (bits BinOp.xor IntKind.u8 (IntKind.u8.wrap ((W.mag n:Int).fdiv (2 ^ (8*6)))) (W.fl (W.neg n))))) (u8v (bI n 6)) (by rw[wI_byte n 6];rfl),.app (byL l) (byL [bI n 6]) (byL (l++[bI n 6])) 100 (byL_app _ _) Nat.zero_lt_one (by rw[byL_len];omega)] (wI_t6 hk (by omega) e2) (by kernel_rfl)
theorem wI_t8 (hk:W.wid (W.mag n)=k) (hj:8≤k) (e:(W.enc n).take (k - 8+1)=l):Gd PP 118 (.o 5 1 (byL (W.enc n))) (lp fwI 1) (at_ fwI (wIs n++[(6,.ow 0),(7,ni (7))]) [.rw 5 1 (byL l)]):=by
 have e2:=wI_take (j:=7) hk hj e
 have h9:=take9 n (k - 7+1)
 rw[e2]at h9
 exact .to mo_ [.mv 0 2] [3,4,6,7] [0] 1 [yt,.eqv 43 (.k (.int .u8 (bits BinOp.xor IntKind.u8 (IntKind.u8.wrap ((W.mag n:Int).fdiv (2 ^ (8*7)))) (W.fl (W.neg n))))) (u8v (bI n 7)) (by rw[wI_byte n 7];rfl),.app (byL l) (byL [bI n 7]) (byL (l++[bI n 7])) 100 (byL_app _ _) Nat.zero_lt_one (by rw[byL_len];omega)] (wI_t7 hk (by omega) e2) (by kernel_rfl)
theorem wI_hd (n:Int) (k:Nat) (hk:W.wid (W.mag n)=k):bits BinOp.xor IntKind.u8 (IntKind.u8.wrap (128+(k:Int))) (W.fl (W.neg n))=((W.fx (W.neg n) (UInt8.ofNat (128+k))).toNat:Int):=by
 have e:IntKind.u8.wrap (128+(k:Int))=((UInt8.ofNat (128+k)).toNat:Int):=by
  have:=W.wrap_u8_nat (128+k)
  rwa [show((128+k:Nat):Int)=128+(k:Int)from by omega]at this
 rw[e]
 exact W.xor_fl _ _
theorem wI_no {M j:Nat} (h:¬0<M / 256 ^ j):M<256 ^ j:=by
 have hp:0<256 ^ j:=Nat.pow_pos (by omega)
 rcases Nat.div_eq_zero_iff.1 (Nat.le_zero.1 (Nat.not_lt.1 h))with h3|h3
 · omega
 · exact h3
theorem wI_yes {M j:Nat} (h:0<M / 256 ^ j):256 ^ j≤M:=by
 have hp:0<256 ^ j:=Nat.pow_pos (by omega)
 rcases Nat.lt_or_ge M (256 ^ j)with h2|h2
 · rw[Nat.div_eq_of_lt h2]at h;omega
 · exact h2
theorem wI_wid (hn:W.Is64 n) {k:Nat} (h1:W.mag n<256 ^ k) (h2:k=0∨256 ^ (k - 1)≤W.mag n):W.wid (W.mag n)=k:=by
 have:=W.mag_lt hn
 exact W.wid_of (by omega) ⟨h1,h2⟩
theorem wI_h0 (hn:W.Is64 n) (hM:W.mag n<256 ^ 0):Gd PP 118 (.o 5 1 (byL (W.enc n))) (lp fwI 0) (at_ fwI (wIs n++[(5,ni 0)]) []):=by
 have hk:=wI_wid hn (k:=0) hM (.inl rfl)
 exact .to mo_ [] [3,4,6,7] [0] 1 [nf,.eqv 28 (.k (.int .u8 (bits BinOp.xor IntKind.u8 (IntKind.u8.wrap (128+((0:Nat):Int))) (W.fl (W.neg n))))) (u8v (W.fx (W.neg n) (UInt8.ofNat (128+0)))) (by rw[wI_hd n 0 hk];rfl)] (wI_t0 hk (W.enc_head n hk)) (by kernel_rfl)
theorem wI_h1 (hn:W.Is64 n) (hM:W.mag n<256 ^ 1):Gd PP 118 (.o 5 1 (byL (W.enc n))) (lp fwI 0) (at_ fwI (wIs n++[(5,ni 1)]) []):=by
 by_cases h:0<W.mag n / 256 ^ 0
 · have hk:=wI_wid hn (k:=1) hM (.inr (wI_yes h))
   exact .to mo_ [] [3,4,6,7] [0] 1 [yt,ye (t:=decide ((W.mag n:Int).fdiv (2 ^ (8*0))>0)) (by rw[fdiv_256];exact decide_eq_true (by omega)),.eqv 28 (.k (.int .u8 (bits BinOp.xor IntKind.u8 (IntKind.u8.wrap (128+((1:Nat):Int))) (W.fl (W.neg n))))) (u8v (W.fx (W.neg n) (UInt8.ofNat (128+1)))) (by rw[wI_hd n 1 hk];rfl)] (wI_t1 hk (by omega) (W.enc_head n hk)) (by kernel_rfl)
 · exact .to mo_ [] [3,4,5] [] 0 [yt,na (t:=decide ((W.mag n:Int).fdiv (2 ^ (8*0))>0)) (by rw[fdiv_256];exact decide_eq_false (by omega))] (wI_h0 hn (wI_no h)) (by kernel_rfl)
theorem wI_h2 (hn:W.Is64 n) (hM:W.mag n<256 ^ 2):Gd PP 118 (.o 5 1 (byL (W.enc n))) (lp fwI 0) (at_ fwI (wIs n++[(5,ni 2)]) []):=by
 by_cases h:0<W.mag n / 256 ^ 1
 · have hk:=wI_wid hn (k:=2) hM (.inr (wI_yes h))
   exact .to mo_ [] [3,4,6,7] [0] 1 [yt,ye (t:=decide ((W.mag n:Int).fdiv (2 ^ (8*1))>0)) (by rw[fdiv_256];exact decide_eq_true (by omega)),.eqv 28 (.k (.int .u8 (bits BinOp.xor IntKind.u8 (IntKind.u8.wrap (128+((2:Nat):Int))) (W.fl (W.neg n))))) (u8v (W.fx (W.neg n) (UInt8.ofNat (128+2)))) (by rw[wI_hd n 2 hk];rfl)] (wI_t2 hk (by omega) (W.enc_head n hk)) (by kernel_rfl)
 · exact .to mo_ [] [3,4,5] [] 0 [yt,na (t:=decide ((W.mag n:Int).fdiv (2 ^ (8*1))>0)) (by rw[fdiv_256];exact decide_eq_false (by omega))] (wI_h1 hn (wI_no h)) (by kernel_rfl)
theorem wI_h3 (hn:W.Is64 n) (hM:W.mag n<256 ^ 3):Gd PP 118 (.o 5 1 (byL (W.enc n))) (lp fwI 0) (at_ fwI (wIs n++[(5,ni 3)]) []):=by
 by_cases h:0<W.mag n / 256 ^ 2
 · have hk:=wI_wid hn (k:=3) hM (.inr (wI_yes h))
   exact .to mo_ [] [3,4,6,7] [0] 1 [yt,ye (t:=decide ((W.mag n:Int).fdiv (2 ^ (8*2))>0)) (by rw[fdiv_256];exact decide_eq_true (by omega)),.eqv 28 (.k (.int .u8 (bits BinOp.xor IntKind.u8 (IntKind.u8.wrap (128+((3:Nat):Int))) (W.fl (W.neg n))))) (u8v (W.fx (W.neg n) (UInt8.ofNat (128+3)))) (by rw[wI_hd n 3 hk];rfl)] (wI_t3 hk (by omega) (W.enc_head n hk)) (by kernel_rfl)
 · exact .to mo_ [] [3,4,5] [] 0 [yt,na (t:=decide ((W.mag n:Int).fdiv (2 ^ (8*2))>0)) (by rw[fdiv_256];exact decide_eq_false (by omega))] (wI_h2 hn (wI_no h)) (by kernel_rfl)
theorem wI_h4 (hn:W.Is64 n) (hM:W.mag n<256 ^ 4):Gd PP 118 (.o 5 1 (byL (W.enc n))) (lp fwI 0) (at_ fwI (wIs n++[(5,ni 4)]) []):=by
 by_cases h:0<W.mag n / 256 ^ 3
 · have hk:=wI_wid hn (k:=4) hM (.inr (wI_yes h))
   exact .to mo_ [] [3,4,6,7] [0] 1 [yt,ye (t:=decide ((W.mag n:Int).fdiv (2 ^ (8*3))>0)) (by rw[fdiv_256];exact decide_eq_true (by omega)),.eqv 28 (.k (.int .u8 (bits BinOp.xor IntKind.u8 (IntKind.u8.wrap (128+((4:Nat):Int))) (W.fl (W.neg n))))) (u8v (W.fx (W.neg n) (UInt8.ofNat (128+4)))) (by rw[wI_hd n 4 hk];rfl)] (wI_t4 hk (by omega) (W.enc_head n hk)) (by kernel_rfl)
 · exact .to mo_ [] [3,4,5] [] 0 [yt,na (t:=decide ((W.mag n:Int).fdiv (2 ^ (8*3))>0)) (by rw[fdiv_256];exact decide_eq_false (by omega))] (wI_h3 hn (wI_no h)) (by kernel_rfl)
theorem wI_h5 (hn:W.Is64 n) (hM:W.mag n<256 ^ 5):Gd PP 118 (.o 5 1 (byL (W.enc n))) (lp fwI 0) (at_ fwI (wIs n++[(5,ni 5)]) []):=by
 by_cases h:0<W.mag n / 256 ^ 4
 · have hk:=wI_wid hn (k:=5) hM (.inr (wI_yes h))
   exact .to mo_ [] [3,4,6,7] [0] 1 [yt,ye (t:=decide ((W.mag n:Int).fdiv (2 ^ (8*4))>0)) (by rw[fdiv_256];exact decide_eq_true (by omega)),.eqv 28 (.k (.int .u8 (bits BinOp.xor IntKind.u8 (IntKind.u8.wrap (128+((5:Nat):Int))) (W.fl (W.neg n))))) (u8v (W.fx (W.neg n) (UInt8.ofNat (128+5)))) (by rw[wI_hd n 5 hk];rfl)] (wI_t5 hk (by omega) (W.enc_head n hk)) (by kernel_rfl)
 · exact .to mo_ [] [3,4,5] [] 0 [yt,na (t:=decide ((W.mag n:Int).fdiv (2 ^ (8*4))>0)) (by rw[fdiv_256];exact decide_eq_false (by omega))] (wI_h4 hn (wI_no h)) (by kernel_rfl)
theorem wI_h6 (hn:W.Is64 n) (hM:W.mag n<256 ^ 6):Gd PP 118 (.o 5 1 (byL (W.enc n))) (lp fwI 0) (at_ fwI (wIs n++[(5,ni 6)]) []):=by
 by_cases h:0<W.mag n / 256 ^ 5
 · have hk:=wI_wid hn (k:=6) hM (.inr (wI_yes h))
   exact .to mo_ [] [3,4,6,7] [0] 1 [yt,ye (t:=decide ((W.mag n:Int).fdiv (2 ^ (8*5))>0)) (by rw[fdiv_256];exact decide_eq_true (by omega)),.eqv 28 (.k (.int .u8 (bits BinOp.xor IntKind.u8 (IntKind.u8.wrap (128+((6:Nat):Int))) (W.fl (W.neg n))))) (u8v (W.fx (W.neg n) (UInt8.ofNat (128+6)))) (by rw[wI_hd n 6 hk];rfl)] (wI_t6 hk (by omega) (W.enc_head n hk)) (by kernel_rfl)
 · exact .to mo_ [] [3,4,5] [] 0 [yt,na (t:=decide ((W.mag n:Int).fdiv (2 ^ (8*5))>0)) (by rw[fdiv_256];exact decide_eq_false (by omega))] (wI_h5 hn (wI_no h)) (by kernel_rfl)
theorem wI_h7 (hn:W.Is64 n) (hM:W.mag n<256 ^ 7):Gd PP 118 (.o 5 1 (byL (W.enc n))) (lp fwI 0) (at_ fwI (wIs n++[(5,ni 7)]) []):=by
 by_cases h:0<W.mag n / 256 ^ 6
 · have hk:=wI_wid hn (k:=7) hM (.inr (wI_yes h))
   exact .to mo_ [] [3,4,6,7] [0] 1 [yt,ye (t:=decide ((W.mag n:Int).fdiv (2 ^ (8*6))>0)) (by rw[fdiv_256];exact decide_eq_true (by omega)),.eqv 28 (.k (.int .u8 (bits BinOp.xor IntKind.u8 (IntKind.u8.wrap (128+((7:Nat):Int))) (W.fl (W.neg n))))) (u8v (W.fx (W.neg n) (UInt8.ofNat (128+7)))) (by rw[wI_hd n 7 hk];rfl)] (wI_t7 hk (by omega) (W.enc_head n hk)) (by kernel_rfl)
 · exact .to mo_ [] [3,4,5] [] 0 [yt,na (t:=decide ((W.mag n:Int).fdiv (2 ^ (8*6))>0)) (by rw[fdiv_256];exact decide_eq_false (by omega))] (wI_h6 hn (wI_no h)) (by kernel_rfl)
theorem wI_h8 (hn:W.Is64 n) (hM:W.mag n<256 ^ 8):Gd PP 118 (.o 5 1 (byL (W.enc n))) (lp fwI 0) (at_ fwI (wIs n++[(5,ni 8)]) []):=by
 by_cases h:0<W.mag n / 256 ^ 7
 · have hk:=wI_wid hn (k:=8) hM (.inr (wI_yes h))
   exact .to mo_ [] [3,4,6,7] [0] 1 [yt,ye (t:=decide ((W.mag n:Int).fdiv (2 ^ (8*7))>0)) (by rw[fdiv_256];exact decide_eq_true (by omega)),.eqv 28 (.k (.int .u8 (bits BinOp.xor IntKind.u8 (IntKind.u8.wrap (128+((8:Nat):Int))) (W.fl (W.neg n))))) (u8v (W.fx (W.neg n) (UInt8.ofNat (128+8)))) (by rw[wI_hd n 8 hk];rfl)] (wI_t8 hk (by omega) (W.enc_head n hk)) (by kernel_rfl)
 · exact .to mo_ [] [3,4,5] [] 0 [yt,na (t:=decide ((W.mag n:Int).fdiv (2 ^ (8*7))>0)) (by rw[fdiv_256];exact decide_eq_false (by omega))] (wI_h7 hn (wI_no h)) (by kernel_rfl)
theorem e_wint (hn:W.Is64 n):Pure PP 118 [ni n] (.o 5 1 (byL (W.enc n))):=by
 have hM:W.mag n<256 ^ 8:=by have:=W.mag_lt hn;omega
 by_cases h0:n<0
 · have hng:W.neg n=true:=by unfold W.neg;simpa using h0
   have hx:=W.u64_neg n hn h0
   have g:=wI_h8 hn hM
   unfold wIs at g
   rw[hng]at g
   exact pf (by kernel_rfl) (.to mo_ [] [3,4,5] [] 0 [ye (t:=decide (n<0)) (decide_eq_true h0),.eqv 13 (.k (.int .u64 (bits BinOp.xor IntKind.u64 IntKind.u64.max (IntKind.u64.wrap n)))) (u64 (W.mag n)) (by rw[hx];rfl)] g (by kernel_rfl))
 · have hng:W.neg n=false:=by unfold W.neg;simpa using h0
   have hx:=W.u64_pos n hn h0
   have g:=wI_h8 hn hM
   unfold wIs at g
   rw[hng]at g
   exact pf (by kernel_rfl) (.to mo_ [] [3,4,5] [] 0 [.eqv 9 (.k (.int .u64 (IntKind.u64.wrap n))) (u64 (W.mag n)) (by rw[hx];rfl),na (t:=decide (n<0)) (decide_eq_false h0)] g (by kernel_rfl))
end
noncomputable abbrev fwL:Func:=fnOf PP 74
theorem encI_take {l:List Int} {i:Nat} {x:Int} (h:l[i]? =some x):W.enc l.length++(l.take (i+1)).flatMap W.enc=(W.enc l.length++(l.take i).flatMap W.enc)++W.enc x:=by
 rw[W.take_flat W.enc h,List.append_assoc]
theorem e_wints {l:List Int} (hl:∀ x∈l,W.Is64 x) (hb:l.length≤100000):Pure PP 74 [zl l] (.o 5 1 (byL (W.encI l))):=by
 have hz:=zs_len l
 let P:Nat→List UInt8:=fun i=>W.enc l.length++(l.take i).flatMap W.enc
 let X:Nat→St:=fun i=>at_ fwL [(3,.ow 0),(9,zl l),(10,ni ((zs l).length:Int)),(11,ni i)] [.rw 5 1 (byL (P i))]
 have h0:P 0=W.enc l.length:=by simp[P]
 have hn:P l.length=W.encI l:=by simp only[P];rw[List.take_length];rfl
 have hPl:∀ i,(P i).length≤(W.encI l).length:=fun i=>by
  have:=W.flat_le W.enc l i
  simp only[P,W.encI,List.length_append];omega
 have hle:=W.encI_le l
 have h64:W.Is64 (l.length:Int):=W.nat64 (by omega)
 refine pf (by kernel_rfl) (.to mo_ [] [3,9,10,11] [0] 1 [.eqv 7 (ni ((zs l).length:Int)) (ni (l.length:Int)) (by rw[hz]),cl (e_wint h64)] (td':=lp fwL 0) (σ':=at_ fwL [(3,.ow 0),(9,zl l),(10,ni ((zs l).length:Int)),(11,ni 0)] [.rw 5 1 (byL (W.enc l.length))]) ?_ (by kernel_rfl))
 rw[←h0]
 refine Gd.loop X (fun i=>i≤l.length) (fun i=>l.length - i) ?_ 0 (Nat.zero_le _)
 intro i hi ih
 by_cases h:i<l.length
 · have e:=zs_el h
   have hx:=num_el h
   generalize l.getD i 0=d at e hx
   have hd:W.Is64 d:=hl d (List.mem_of_getElem? hx)
   have eP:P (i+1)=P i++W.enc d:=encI_take hx
   have h1:=hPl (i+1)
   have h2:=(W.enc_le d).1
   exact .to mo_ [.mv 0 2] [3,9,10,11] [0] 1 [ye (t:=decide ((i:Int)<((zs l).length:Int))) (decide_eq_true (by omega)),.sel _ _ _ e,cl (e_wint hd),.app (byL (P i)) (byL (W.enc d)) (byL (P (i+1))) 1000000 (by rw[byL_app,eP]) (by rw[byL_len];omega) (by rw[byL_len];omega),inc 19 i (by omega)] (ih (i+1) h (by omega)) (by kernel_rfl)
 · have hi2:i=l.length:=by omega
   subst hi2
   rw[←hn]
   exact fi [na (t:=decide ((l.length:Int)<((zs l).length:Int))) (decide_eq_false (by omega))] (by kernel_rfl) (by kernel_rfl)
end Go.Proofs.YtfdfbenejkmnlaaGreatDoor.E
namespace Go.Proofs.YtfdfbenejkmnlaaGreatDoor.E
open Go.RowKit
set_option linter.unusedVariables false
set_option linter.unusedSimpArgs false
section
variable {hd:UInt8} {t l:List UInt8} {g:Bool} {K:Nat}
theorem wr6 {x:Int} (h: -9223372036854775808≤x∧x≤9223372036854775807):IntKind.i64.wrap x=x:=by rw[IntKind.wrap_i64];omega
end
end Go.Proofs.YtfdfbenejkmnlaaGreatDoor.E
namespace Go.Proofs.YtfdfbenejkmnlaaGreatDoor.E
open Go.RowKit
set_option linter.unusedVariables false
set_option linter.unusedSimpArgs false
section
end
noncomputable abbrev frI:Func:=fnOf PP 144
section
variable {n:Int} {k:Nat}
/-- The digits of a number, the least first. -/
def leD (M i:Nat):List UInt8:=(List.range i).map fun j=>UInt8.ofNat (M / 256 ^ j)
theorem leD_succ (M i:Nat):leD M (i+1)=leD M i++[UInt8.ofNat (M / 256 ^ i)]:=by simp[leD,List.range_succ]
theorem leD_len (M i:Nat):(leD M i).length=i:=by simp[leD]
theorem leD_at {M i k:Nat} (h:i<k):(leD M k)[i]? =some (UInt8.ofNat (M / 256 ^ i)):=by simp[leD,h]
/-- One less, from one to nothing. -/
def dn:Nat→Int
 |0=> -1
 |i+1=>(i:Int)
theorem dn_eq (i:Nat):(i:Int) - 1=dn i:=by cases i<;>simp[dn]
theorem dn_in (i:Nat) (h:i<1000000): -9223372036854775808≤dn i∧dn i≤9223372036854775807:=by cases i<;>simp[dn];omega
noncomputable def rI2 (n:Int) (k:Nat) (j:Nat) (l:List UInt8):St:=at_ frI [(0,ni n),(4,.ow 0),(6,.ow 2),(7,ni (dn j))] [.rw 5 1 (byL (leD (W.mag n) k)),.dead,.rw 5 1 (byL l)]
theorem rI_tail (hk:W.wid (W.mag n)=k) (h8:k≤8) (l0:List UInt8) (h0:(W.enc n).take 1=l0):Gd PP 144 (.o 5 1 (byL (W.enc n))) (lp frI 1) (rI2 n k k l0):=by
 refine Gd.loop (fun(x:Nat×List UInt8)=>rI2 n k x.1 x.2) (fun x=>x.1≤k∧(W.enc n).take (k - x.1+1)=x.2) (fun x=>x.1) ?_ (k,l0) ⟨Nat.le_refl _,by simpa using h0⟩
 rintro ⟨j,l⟩ ⟨hj,hl⟩ ih
 simp only at hj hl ih⊢
 cases j with
 |zero=>
   rw[Nat.sub_zero,W.enc_all n hk]at hl
   subst hl
   exact fi [nf] (by kernel_rfl) (by kernel_rfl)
 |succ i=>
   have e2:=wI_take (j:=i) hk hj hl
   have h9:=take9 n (k - i+1)
   rw[e2]at h9
   have hs:(byL (leD (W.mag n) k))[i]? =some [u8v (UInt8.ofNat (W.mag n / 256 ^ i))]:=byL_at (leD_at (by omega))
   have hge:decide ((i:Int)≥0)=true:=decide_eq_true (by omega)
   have ap:byL l++byL [bI n i]=byL (l++[bI n i]):=byL_app _ _
   have hlen:(byL (l++[bI n i])).length≤100:=by rw[byL_len];omega
   have nx:=ih (i,l++[bI n i]) ⟨by omega,e2⟩ (Nat.lt_succ_self i)
   have hq:(i:Int) - 1=dn i∧ -9223372036854775808≤dn i∧dn i≤9223372036854775807:=⟨dn_eq i,dn_in i (by omega)⟩
   by_cases hn:n<0
   · have hng:W.neg n=true:=by unfold W.neg;simpa using hn
     have hb:IntKind.u8.wrap (255 - ((UInt8.ofNat (W.mag n / 256 ^ i)).toNat:Int))=((bI n i).toNat:Int):=by
      have:=(UInt8.ofNat (W.mag n / 256 ^ i)).toNat_lt
      rw[IntKind.wrap_u8']
      unfold bI
      rw[hng,W.fx_toNat]
      simp only[if_true]
      omega
     exact .to mo_ [.mv 2 4] [0,4,6,7] [0,2] 3 [ye hge,.sel _ _ _ hs,.sel _ _ _ hs,ye (t:=decide (n<0)) (decide_eq_true hn),.eqv 53 (.k (.int .u8 (IntKind.u8.wrap (255 - ((UInt8.ofNat (W.mag n / 256 ^ i)).toNat:Int))))) (u8v (bI n i)) (by rw[hb];rfl),.app (byL l) (byL [bI n i]) (byL (l++[bI n i])) 100 ap Nat.zero_lt_one hlen,wq 45 ((i:Int) - 1) (dn i) hq] nx (by kernel_rfl)
   · have hng:W.neg n=false:=by unfold W.neg;simpa using hn
     have hb:UInt8.ofNat (W.mag n / 256 ^ i)=bI n i:=by unfold bI;rw[hng];rfl
     rw[hb]at hs
     exact .to mo_ [.mv 2 4] [0,4,6,7] [0,2] 3 [ye hge,.sel _ _ _ hs,.sel _ _ _ hs,na (t:=decide (n<0)) (decide_eq_false hn),.app (byL l) (byL [bI n i]) (byL (l++[bI n i])) 100 ap Nat.zero_lt_one hlen,wq 45 ((i:Int) - 1) (dn i) hq] nx (by kernel_rfl)
noncomputable def rI1 (n:Int) (i:Nat):St:=at_ frI [(0,ni n),(3,ni ((W.mag n / 256 ^ i:Nat):Int)),(4,.ow 0)] [.rw 5 1 (byL (leD (W.mag n) i))]
theorem rI_loop (hn:W.Is64 n):Gd PP 144 (.o 5 1 (byL (W.enc n))) (lp frI 0) (rI1 n 0):=by
 have hm:=W.mag_lt hn
 refine Gd.loop (rI1 n) (fun i=>i≤8∧(i=0∨256 ^ (i - 1)≤W.mag n)) (fun i=>8 - i) ?_ 0 ⟨by omega,.inl rfl⟩
 intro i ⟨hi,hI⟩ ih
 have hd:W.mag n / 256 ^ i≤W.mag n:=Nat.div_le_self ..
 by_cases h:0<W.mag n / 256 ^ i
 · have hle:=wI_yes h
   have hi8:i<8:=by
    rcases Nat.lt_or_ge i 8 with h1|h1
    · exact h1
    · have:256 ^ 8≤256 ^ i:=Nat.pow_le_pow_right (by omega) h1
      omega
   have hx:=ih (i+1) ⟨by omega,.inr (by simpa using hle)⟩ (by omega)
   have hdd:W.mag n / 256 ^ (i+1)=W.mag n / 256 ^ i / 256:=by rw[Nat.pow_succ,Nat.div_div_eq_div_mul]
   have hsc:=leD_succ (W.mag n) i
   have hln:=leD_len (W.mag n) (i+1)
   unfold rI1 at hx
   rw[hdd,hsc]at hx
   rw[hsc]at hln
   unfold rI1
   generalize leD (W.mag n) i=ds at hx hln⊢
   generalize W.mag n / 256 ^ i=q at h hd hx hln⊢
   have e1:IntKind.u8.wrap ((q:Int).tmod 256)=((UInt8.ofNat q).toNat:Int):=by
    have:(q:Int).tmod 256=((q % 256:Nat):Int):=rfl
    rw[this,W.wrap_u8_nat]
    congr 1
    apply congrArg
    apply UInt8.toNat_inj.1
    simp
   have e2:IntKind.i64.wrap ((q:Int).tdiv 256)=((q / 256:Nat):Int):=by
    have:(q:Int).tdiv 256=((q / 256:Nat):Int):=rfl
    rw[this,wr6 (by omega)]
   exact .to mo_ [.mv 0 2] [0,3,4] [0] 1 [ye (t:=decide ((q:Int)>0)) (decide_eq_true (by omega)),.eqv 19 (.k (.int .u8 (IntKind.u8.wrap ((q:Int).tmod 256)))) (u8v (UInt8.ofNat q)) (by rw[e1];rfl),.app (byL ds) (byL [UInt8.ofNat q]) (byL (ds++[UInt8.ofNat q])) 100 (byL_app _ _) Nat.zero_lt_one (by rw[byL_len,hln];omega),.eqv 23 (ni (IntKind.i64.wrap ((q:Int).tdiv 256))) (ni ((q / 256:Nat):Int)) (by rw[e2])] hx (by kernel_rfl)
 · have hk:=wI_wid hn (wI_no h) hI
   have T:=rI_tail hk hi _ (W.enc_head n hk)
   have hz:W.mag n / 256 ^ i=0:=Nat.le_zero.1 (Nat.not_lt.1 h)
   have hln:=leD_len (W.mag n) i
   unfold rI1
   rw[hz]
   by_cases hneg:n<0
   · have hng:W.neg n=true:=by unfold W.neg;simpa using hneg
     have hb:IntKind.u8.wrap (IntKind.i64.wrap (127 - (i:Int)))=((W.fx (W.neg n) (UInt8.ofNat (128+i))).toNat:Int):=by
      rw[wr6 (by omega),IntKind.wrap_u8',hng,W.fx_toNat]
      simp<;>omega
     exact .to mo_ [] [0,4,6,7] [0,2] 3 [nf,.eqv 25 (ni ((byL (leD (W.mag n) i)).length:Int)) (ni i) (by rw[byL_len,hln]),na (t:=decide (n≥0)) (decide_eq_false (by omega)),.eqv 37 (.k (.int .u8 (IntKind.u8.wrap (IntKind.i64.wrap (127 - (i:Int)))))) (u8v (W.fx (W.neg n) (UInt8.ofNat (128+i)))) (by rw[hb];rfl),.app [] (byL [W.fx (W.neg n) (UInt8.ofNat (128+i))]) (byL [W.fx (W.neg n) (UInt8.ofNat (128+i))]) 100 rfl Nat.zero_lt_one (by show 1≤100;decide),wq 41 ((i:Int) - 1) (dn i) ⟨dn_eq i,dn_in i (by omega)⟩] T (by kernel_rfl)
   · have hng:W.neg n=false:=by unfold W.neg;simpa using hneg
     have hb:IntKind.u8.wrap (IntKind.i64.wrap (128+(i:Int)))=((W.fx (W.neg n) (UInt8.ofNat (128+i))).toNat:Int):=by
      rw[wr6 (by omega),IntKind.wrap_u8',hng,W.fx_toNat]
      simp<;>omega
     exact .to mo_ [] [0,4,6,7] [0,2] 3 [nf,.eqv 25 (ni ((byL (leD (W.mag n) i)).length:Int)) (ni i) (by rw[byL_len,hln]),ye (t:=decide (n≥0)) (decide_eq_true (by omega)),.eqv 31 (.k (.int .u8 (IntKind.u8.wrap (IntKind.i64.wrap (128+(i:Int)))))) (u8v (W.fx (W.neg n) (UInt8.ofNat (128+i)))) (by rw[hb];rfl),.app [] (byL [W.fx (W.neg n) (UInt8.ofNat (128+i))]) (byL [W.fx (W.neg n) (UInt8.ofNat (128+i))]) 100 rfl Nat.zero_lt_one (by show 1≤100;decide),wq 41 ((i:Int) - 1) (dn i) ⟨dn_eq i,dn_in i (by omega)⟩] T (by kernel_rfl)
theorem e_rint (hn:W.Is64 n):Pure PP 144 [ni n] (.o 5 1 (byL (W.enc n))):=by
 have L:=rI_loop hn
 have h0:W.mag n / 256 ^ 0=W.mag n:=Nat.div_one _
 unfold rI1 at L
 rw[h0]at L
 have hm:=W.mag_lt hn
 by_cases h:n<0
 · have e: -1 - n=(W.mag n:Int):=by unfold W.mag;rw[if_pos h];omega
   exact pf (by kernel_rfl) (.to mo_ [.ow 4 (.rw 5 1 [])] [0,3,4] [0] 1 [ye (t:=decide (n<0)) (decide_eq_true h),wq 13 (-1 - n) (W.mag n) (by rw[e];omega)] L (by kernel_rfl))
 · have e:n=(W.mag n:Int):=by unfold W.mag;rw[if_neg h];omega
   exact pf (by kernel_rfl) (.to mo_ [.ow 4 (.rw 5 1 [])] [0,3,4] [0] 1 [.eqv 3 (ni n) (ni (W.mag n)) (by rw[←e]),na (t:=decide (n<0)) (decide_eq_false h)] L (by kernel_rfl))
end
noncomputable abbrev frL:Func:=fnOf PP 98
theorem e_rints {l:List Int} (hl:∀ x∈l,W.Is64 x) (hb:l.length≤100000):Pure PP 98 [zl l] (.o 5 1 (byL (W.encI l))):=by
 have hz:=zs_len l
 let P:Nat→List UInt8:=fun i=>W.enc l.length++(l.take i).flatMap W.enc
 let X:Nat→St:=fun i=>at_ frL [(0,zl l),(3,.ow 0),(4,ni i)] [.rw 5 1 (byL (P i))]
 have h0:P 0=W.enc l.length:=by simp[P]
 have hn:P l.length=W.encI l:=by simp only[P];rw[List.take_length];rfl
 have hPl:∀ i,(P i).length≤(W.encI l).length:=fun i=>by
  have:=W.flat_le W.enc l i
  simp only[P,W.encI,List.length_append];omega
 have hle:=W.encI_le l
 have h64:W.Is64 (l.length:Int):=W.nat64 (by omega)
 refine pf (by kernel_rfl) (.to mo_ [] [0,3,4] [0] 1 [.eqv 6 (ni ((zs l).length:Int)) (ni (l.length:Int)) (by rw[hz]),cl (e_rint h64)] (td':=lp frL 0) (σ':=at_ frL [(0,zl l),(3,.ow 0),(4,ni 0)] [.rw 5 1 (byL (W.enc l.length))]) ?_ (by kernel_rfl))
 rw[←h0]
 refine Gd.loop X (fun i=>i≤l.length) (fun i=>l.length - i) ?_ 0 (Nat.zero_le _)
 intro i hi ih
 by_cases h:i<l.length
 · have e:=zs_el h
   have hx:=num_el h
   generalize l.getD i 0=d at e hx
   have hd:W.Is64 d:=hl d (List.mem_of_getElem? hx)
   have eP:P (i+1)=P i++W.enc d:=encI_take hx
   have h1:=hPl (i+1)
   have h2:=(W.enc_le d).1
   exact .to mo_ [.mv 0 2] [0,3,4] [0] 1 [ye (t:=decide ((i:Int)<((zs l).length:Int))) (decide_eq_true (by omega)),.sel _ _ _ e,cl (e_rint hd),.app (byL (P i)) (byL (W.enc d)) (byL (P (i+1))) 1000000 (by rw[byL_app,eP]) (by rw[byL_len];omega) (by rw[byL_len];omega),inc 13 i (by omega)] (ih (i+1) h (by omega)) (by kernel_rfl)
 · have hi2:i=l.length:=by omega
   subst hi2
   rw[←hn]
   exact fi [na (t:=decide ((l.length:Int)<((zs l).length:Int))) (decide_eq_false (by omega))] (by kernel_rfl) (by kernel_rfl)
section
end
end Go.Proofs.YtfdfbenejkmnlaaGreatDoor.E
namespace Go.Proofs.YtfdfbenejkmnlaaGreatDoor.W
open Go.RowKit
end Go.Proofs.YtfdfbenejkmnlaaGreatDoor.W
namespace Go.Proofs.YtfdfbenejkmnlaaGreatDoor.E
open Go.RowKit
set_option linter.unusedVariables false
set_option linter.unusedSimpArgs false
section
variable {x y:Int} {k:Nat} {r:Rat}
theorem digs_inj {a b:Nat} (h:digs a=digs b):a=b:=by
 have h1:=(digs_ok a).2
 have h2:=(digs_ok b).2
 rw[h,h2]at h1
 exact_mod_cast h1.symm
theorem digs_64 (n:Nat):∀ d∈digs n,W.Is64 d:=fun d hd=>by
 obtain⟨i,hi⟩:=List.getElem?_of_mem hd
 obtain⟨h1,h2⟩:=(digs_ok n).1.1.get hi
 unfold W.Is64
 omega
theorem sgn_64 (x:Int):W.Is64 (sgnZ x):=by unfold W.Is64 sgnZ cmpZ;split<;>(try split)<;>omega
/-- The numbers that stand for an integer. -/
def znL (x:Int):List Int:=sgnZ x::digs x.natAbs
theorem zn_64 (x:Int):∀ d∈znL x,W.Is64 d:=fun d hd=>by
 rcases List.mem_cons.1 hd with rfl|hd
 · exact sgn_64 x
 · exact digs_64 _ d hd
def encZ (x:Int):List UInt8:=W.encI (znL x)
/-- Few digits. -/
def Fz (x:Int):Prop:=(digs x.natAbs).length≤90000
theorem e_ienc (hb:Fz x):Pure PP 120 [.ag (dI x)] (.o 5 1 (byL (encZ x))):=by
 have hl:(znL x).length≤100000:=by unfold Fz at hb;simp only[znL,List.length_cons];omega
 have c:=e_wints (zn_64 x) hl
 unfold Fz at hb
 unfold encZ
 by_cases h0:x=0
 · subst h0
   have hz:digs (0:Int).natAbs=[]:=digs_z rfl
   unfold znL at c⊢
   rw[hz]at c⊢
   have s:=e_sign 0
   rw[dI_0]at s⊢
   exact tr [cl s,.ape [] rfl,cl c] (by kernel_rfl)
 · have hnz:=digs_nz h0
   exact tr [cl (e_sign x),.aps (zs [sgnZ x]) (zs (digs x.natAbs)) (zs (znL x)) 100000 1 rfl (by rw[zs_len];omega) (by rw[zs_len];exact hl) (zs_z1 _),cl c] (by kernel_rfl)
theorem e_ienc3 (hb:Fz x):Pure PP 145 [.ag (dI x)] (.o 5 1 (byL (encZ x))):=by
 have hl:(znL x).length≤100000:=by unfold Fz at hb;simp only[znL,List.length_cons];omega
 have c:=e_rints (zn_64 x) hl
 unfold Fz at hb
 unfold encZ
 by_cases h0:x=0
 · subst h0
   have hz:digs (0:Int).natAbs=[]:=digs_z rfl
   unfold znL at c⊢
   rw[hz]at c⊢
   have s:=e_sign3 0
   rw[dI_0]at s⊢
   exact tr [cl s,.ape [] rfl,cl c] (by kernel_rfl)
 · have hnz:=digs_nz h0
   exact tr [cl (e_sign3 x),.aps (zs [sgnZ x]) (zs (digs x.natAbs)) (zs (znL x)) 100000 1 rfl (by rw[zs_len];omega) (by rw[zs_len];exact hl) (zs_z1 _),cl c] (by kernel_rfl)
open Classical in
noncomputable def prZ1 (a:Int) (D:List Int):Option Int:=if h:∃ x:Int,D=digs x.natAbs∧sgnZ x=a∧(a== -1)=decide (x<0)then some h.choose else none
/-- The integer for which numbers stand. -/
noncomputable def prZ:List Int→Option Int
 |[]=>none
 |a::D=>prZ1 a D
theorem prZ_ok {a:Int} {D:List Int} (h1:D=digs x.natAbs) (h2:sgnZ x=a) (h3:(a== -1)=decide (x<0)):prZ (a::D)=some x:=by
 have h:∃ x:Int,D=digs x.natAbs∧sgnZ x=a∧(a== -1)=decide (x<0):=⟨x,h1,h2,h3⟩
 show prZ1 a D=_
 unfold prZ1
 rw[dif_pos h]
 obtain⟨q1,q2,q3⟩:=h.choose_spec
 generalize h.choose=y at q1 q2 q3
 have e1:x.natAbs=y.natAbs:=digs_inj (h1.symm.trans q1)
 have e2:decide (x<0)=decide (y<0):=h3.symm.trans q3
 have e3:=decide_eq_decide.1 e2
 congr 1
 omega
theorem sgn_neg (x:Int):(sgnZ x== -1)=decide (x<0):=by
 unfold sgnZ cmpZ
 by_cases h:x<0
 · simp[h]
 · by_cases h2:x=0
   · subst h2;decide
   · have:0<x:=by omega
     simp[h,this]
theorem prZ_zn (x:Int):prZ (znL x)=some x:=prZ_ok rfl rfl (sgn_neg x)
noncomputable def decZ:List UInt8→Int×Nat×Int:=W.dM W.decI prZ
def VZ (x:Int):Prop:=W.Is64 ((znL x).length:Int)
theorem codecZ:W.Codec encZ decZ VZ:=W.codecM (g:=znL) W.codecI (fun x h=>⟨⟨zn_64 x,h⟩,prZ_zn x⟩) fun l x hl hx=>by
 cases l with
 |nil=>cases hx
 |cons a D=>
  change prZ1 a D=some x at hx
  unfold prZ1 at hx
  split at hx
  · rename_i h
    injection hx with hx
    obtain⟨q1,q2,q3⟩:=h.choose_spec
    rw[hx]at q1 q2 q3
    have e:znL x=a::D:=by unfold znL;rw[q1,q2]
    exact⟨e,by unfold VZ;rw[e];exact hl.2⟩
  · cases hx
end
end Go.Proofs.YtfdfbenejkmnlaaGreatDoor.E
