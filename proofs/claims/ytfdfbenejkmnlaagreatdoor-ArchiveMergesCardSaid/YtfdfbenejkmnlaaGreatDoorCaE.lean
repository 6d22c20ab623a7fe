/-
 CLAIMS: possible fits, by the engine (printed by gen/cae.py).
-/
import Derived.Test.YtfdfbenejkmnlaaGreatDoorCaD
namespace Go.Proofs.YtfdfbenejkmnlaaGreatDoor.E.Ca
open Go.RowKit
set_option linter.unusedVariables false
set_option linter.unusedSimpArgs false
open Classical in
/-- The rational number that is written. -/
noncomputable def q (n:RN):Rat:=if h:rok n then h.choose else 0
theorem dI_inj {x y:Int} (h1:decide (x<0)=decide (y<0)) (h2:digs x.natAbs=digs y.natAbs):x=y:=by
 have h3:(x.natAbs:Int)=y.natAbs:=by rw[←(digs_ok x.natAbs).2,←(digs_ok y.natAbs).2,h2]
 have:=decide_eq_decide.1 h1
 omega
theorem ofR_inj {r t:Rat} (h:ofR r=ofR t):r=t:=by
 unfold ofR at h
 injection h with h1 h2 h3 h4
 exact dq_inj (dI_inj h1 h2) (dI_inj h3 h4)
theorem q_eq {n:RN} (h:rok n):n=ofR (q n):=by
 unfold q
 rw[dif_pos h]
 exact h.choose_spec
theorem q_ofR (r:Rat):q (ofR r)=r:=(ofR_inj (q_eq ⟨r,rfl⟩)).symm
section
variable {n:RN} {f:FM} {k:Nat} {r t:Rat} {nd:Bool}
open Classical in
noncomputable def okB (n:RN):Bool:=decide (rok n)
theorem okB_t (h:okB n=true):rok n:=by unfold okB at h;simpa using h
theorem okB_f (h:okB n=false):¬rok n:=by unfold okB at h;simpa using h
theorem okB_ofR (r:Rat):okB (ofR r)=true:=by unfold okB;simpa using⟨r,rfl⟩
theorem e_rvalidN (hb:Bn k n) (hk:1≤k∧k≤100000):Pure PP 81 [.ag (cN n)] (bo (okB n)):=by
 cases h:okB n with
 |true=>
  obtain⟨r,rfl⟩:=okB_t h
  exact e_rvalid (hb.bq hk.1) (by omega)
 |false=>exact e_rvalid_no (okB_f h) hb (by omega)
theorem e_valid4N (hb:Bn k n) (hk:1≤k∧k≤100000):Pure PP 146 [.ag (cN n)] (bo (okB n)):=by
 cases h:okB n with
 |true=>
  obtain⟨r,rfl⟩:=okB_t h
  exact e_valid4 (hb.bq hk.1) (by omega)
 |false=>exact e_valid4_no (okB_f h) hb (by omega)
noncomputable def badR (nd:Bool) (n:RN):Bool:= !okB n||(!nd&&(sgnZ (q n).num != 0))
theorem e_fits1 (hb:Bn k n) (hk:1≤k∧k≤100000):Pure PP 80 [.ag (cN n),.ip [bo nd]] (bo (badR nd n)):=by
 have hv:=e_rvalidN hb hk
 unfold badR
 cases h:okB n with
 |false=>
  rw[h]at hv
  exact tr [cl hv,yt] (by kernel_rfl)
 |true=>
  rw[h]at hv
  obtain⟨r,rfl⟩:=okB_t h
  rw[q_ofR]
  cases nd with
  |true=>exact tr [cl hv,nf,nf] (by kernel_rfl)
  |false=>exact tr [cl hv,nf,yt,cl (e_rsign r)] (by kernel_rfl)
def edgeB (x:Int):Bool:=decide (x≥0)&&decide (x<12)
theorem e_edge (x:Int):Pure PP 83 [ni x] (bo (edgeB x)):=by
 unfold edgeB
 cases h:decide (x≥0)with
 |true=>exact tr [ye (t:=decide (x≥0)) h] (by kernel_rfl)
 |false=>exact tr [na (t:=decide (x≥0)) h] (by kernel_rfl)
noncomputable def oneB (r t:Rat):Bool:=decide (r*r+t*t=Rat.divInt 1 1)
theorem e_tvalid (br:Bq k r) (bt:Bq k t) (hk:k≤100000):Pure PP 84 [.ag (dR r++dR t)] (bo (oneB r t)):=
 tr [cl (e_rvalid br (by omega)),yt,cl (e_rvalid bt (by omega)),yt,cl (e_rmul br br (by omega)),cl (e_rmul bt bt (by omega)),cl (e_sum2 (br.mul br) (bt.mul bt) (by omega)),cl (e_rof (x:=1) (y:=1) ⟨by decide,by decide⟩ ⟨by decide,by decide⟩),cl (e_rsame (r*r+t*t) (Rat.divInt 1 1))] (by kernel_rfl)
noncomputable def needB (f:FM):Bool:=decide (f.a≥0)&&decide (f.a<f.b)&&decide (f.b<12)&&edgeB f.ea&&edgeB f.eb&&edgeB f.many&&decide (f.many>0)&&oneB (q f.n0) (q f.n1)&&decide (cmpQ (q f.n2) (q f.n4)≤0)&&decide (cmpQ (q f.n3) (q f.n5)≤0)
/-- Is a fit possible, or zero where it is not needed? -/
noncomputable def fitsB (f:FM) (nd:Bool):Bool:= !(nu f).any (badR nd)&&(match nd with|false=>decide (wh f=[0,0,0,0,0])|true=>needB f)
theorem all_ok (h:(nu f).any (badR nd)=false):∃ g:FQ,f=g.fm:=by
 rw[List.any_eq_false]at h
 have ok:∀ n∈nu f,rok n:=fun n hn=>by
  have:=h n hn
  unfold badR at this
  cases h2:okB n with
  |true=>exact okB_t h2
  |false=>rw[h2]at this;simp at this
 obtain⟨a,b,ea,eb,many,n0,n1,n2,n3,n4,n5⟩:=f
 obtain⟨r0,rfl⟩:=ok n0 (by simp[nu])
 obtain⟨r1,rfl⟩:=ok n1 (by simp[nu])
 obtain⟨r2,rfl⟩:=ok n2 (by simp[nu])
 obtain⟨r3,rfl⟩:=ok n3 (by simp[nu])
 obtain⟨r4,rfl⟩:=ok n4 (by simp[nu])
 obtain⟨r5,rfl⟩:=ok n5 (by simp[nu])
 exact⟨⟨a,b,ea,eb,many,r0,r1,r2,r3,r4,r5⟩,rfl⟩
abbrev z5:List V:=[ni 0,ni 0,ni 0,ni 0,ni 0]
noncomputable def fZ (f:FM):F_:= .eqa 125 (whV f) z5 _ (EqA.arr (P:=PP) (T:= 125) (n:=5) (by kernel_rfl) (xs:=wh f) (ys:=[0,0,0,0,0]) rfl rfl)
def FBits (k:Nat) (f:FM):Prop:=∀ n∈nu f,Bn k n
theorem e_fits (hb : FBits k f) (hk : 1 ≤ k ∧ k ≤ 100000) (nd : Bool) : Pure PP 48 [.ag (dF f), bo nd] (bo (fitsB f nd)) := by
 have hany:=e_idxRC (G:= 80) (c0:=[bo nd]) (bad:=badR nd) (nu f) (fun n hn=>e_fits1 (hb n hn) hk)
 cases hB:(nu f).any (badR nd)with
 |true=>
  rw[hB]at hany
  rw[show fitsB f nd=false from by unfold fitsB;rw[hB];rfl]
  exact tr [cl (e_numbersC f),.arr,cl hany,yt] (by kernel_rfl)
 | false =>
  rw[hB]at hany
  cases nd with
  |false=>
   rw[show fitsB f false=decide (wh f=[0,0,0,0,0])from by unfold fitsB;rw[hB];rfl]
   exact tr [cl (e_numbersC f),.arr,cl hany,nf,yt,cl (e_whole f),fZ f] (by kernel_rfl)
  | true =>
   rw[show fitsB f true=needB f from by unfold fitsB;rw[hB];rfl]
   obtain⟨g,rfl⟩:=all_ok hB
   have b0:=(hb (ofR g.r0) (by simp[nu,FQ.fm])).bq hk.1
   have b1:=(hb (ofR g.r1) (by simp[nu,FQ.fm])).bq hk.1
   have b2:=(hb (ofR g.r2) (by simp[nu,FQ.fm])).bq hk.1
   have b3:=(hb (ofR g.r3) (by simp[nu,FQ.fm])).bq hk.1
   have b4:=(hb (ofR g.r4) (by simp[nu,FQ.fm])).bq hk.1
   have b5:=(hb (ofR g.r5) (by simp[nu,FQ.fm])).bq hk.1
   have hN:needB g.fm=(decide (g.a≥0)&&decide (g.a<g.b)&&decide (g.b<12)&&edgeB g.ea&&edgeB g.eb&&edgeB g.many&&decide (g.many>0)&&oneB g.r0 g.r1&&decide (cmpQ g.r2 g.r4≤0)&&decide (cmpQ g.r3 g.r5≤0)):=by simp only[needB,FQ.fm,q_ofR];rfl
   rw[hN]
   cases h1:(decide (g.a≥0):Bool)with
   | true =>
     cases h2:(decide (g.a<g.b):Bool)with
     | true =>
       cases h3:(decide (g.b<12):Bool)with
       | true =>
         cases h4:(edgeB g.ea:Bool)with
         | true =>
           cases h5:(edgeB g.eb:Bool)with
           | true =>
             cases h6:(edgeB g.many:Bool)with
             | true =>
               cases h7:(decide (g.many>0):Bool)with
               |true=>
                 cases h8:(oneB g.r0 g.r1:Bool)with
                 |true=>
                   cases h9:(decide (cmpQ g.r2 g.r4≤0):Bool)with
                   |true=>
                     exact tr [cl (e_numbersC g.fm),.arr,cl hany,nf,nf,ye (t:=decide (g.a≥0)) h1,ye (t:=decide (g.a<g.b)) h2,ye (t:=decide (g.b<12)) h3,cl (e_edge g.ea),ye (t:=edgeB g.ea) h4,cl (e_edge g.eb),ye (t:=edgeB g.eb) h5,cl (e_edge g.many),ye (t:=edgeB g.many) h6,ye (t:=decide (g.many>0)) h7,cl (e_tvalid b0 b1 hk.2),ye (t:=oneB g.r0 g.r1) h8,cl (e_rcmp b2 b4 (by omega)),ye (t:=decide (cmpQ g.r2 g.r4≤0)) h9,cl (e_rcmp b3 b5 (by omega))] (by kernel_rfl)
                   |false=>
                     exact tr [cl (e_numbersC g.fm),.arr,cl hany,nf,nf,ye (t:=decide (g.a≥0)) h1,ye (t:=decide (g.a<g.b)) h2,ye (t:=decide (g.b<12)) h3,cl (e_edge g.ea),ye (t:=edgeB g.ea) h4,cl (e_edge g.eb),ye (t:=edgeB g.eb) h5,cl (e_edge g.many),ye (t:=edgeB g.many) h6,ye (t:=decide (g.many>0)) h7,cl (e_tvalid b0 b1 hk.2),ye (t:=oneB g.r0 g.r1) h8,cl (e_rcmp b2 b4 (by omega)),na (t:=decide (cmpQ g.r2 g.r4≤0)) h9] (by kernel_rfl)
                 |false=>
                   exact tr [cl (e_numbersC g.fm),.arr,cl hany,nf,nf,ye (t:=decide (g.a≥0)) h1,ye (t:=decide (g.a<g.b)) h2,ye (t:=decide (g.b<12)) h3,cl (e_edge g.ea),ye (t:=edgeB g.ea) h4,cl (e_edge g.eb),ye (t:=edgeB g.eb) h5,cl (e_edge g.many),ye (t:=edgeB g.many) h6,ye (t:=decide (g.many>0)) h7,cl (e_tvalid b0 b1 hk.2),na (t:=oneB g.r0 g.r1) h8,nf] (by kernel_rfl)
               |false=>
                 exact tr [cl (e_numbersC g.fm),.arr,cl hany,nf,nf,ye (t:=decide (g.a≥0)) h1,ye (t:=decide (g.a<g.b)) h2,ye (t:=decide (g.b<12)) h3,cl (e_edge g.ea),ye (t:=edgeB g.ea) h4,cl (e_edge g.eb),ye (t:=edgeB g.eb) h5,cl (e_edge g.many),ye (t:=edgeB g.many) h6,na (t:=decide (g.many>0)) h7,nf,nf] (by kernel_rfl)
             |false=>
               exact tr [cl (e_numbersC g.fm),.arr,cl hany,nf,nf,ye (t:=decide (g.a≥0)) h1,ye (t:=decide (g.a<g.b)) h2,ye (t:=decide (g.b<12)) h3,cl (e_edge g.ea),ye (t:=edgeB g.ea) h4,cl (e_edge g.eb),ye (t:=edgeB g.eb) h5,cl (e_edge g.many),na (t:=edgeB g.many) h6,nf,nf,nf] (by kernel_rfl)
           |false=>
             exact tr [cl (e_numbersC g.fm),.arr,cl hany,nf,nf,ye (t:=decide (g.a≥0)) h1,ye (t:=decide (g.a<g.b)) h2,ye (t:=decide (g.b<12)) h3,cl (e_edge g.ea),ye (t:=edgeB g.ea) h4,cl (e_edge g.eb),na (t:=edgeB g.eb) h5,nf,nf,nf,nf] (by kernel_rfl)
         |false=>
           exact tr [cl (e_numbersC g.fm),.arr,cl hany,nf,nf,ye (t:=decide (g.a≥0)) h1,ye (t:=decide (g.a<g.b)) h2,ye (t:=decide (g.b<12)) h3,cl (e_edge g.ea),na (t:=edgeB g.ea) h4,nf,nf,nf,nf,nf] (by kernel_rfl)
       |false=>
         exact tr [cl (e_numbersC g.fm),.arr,cl hany,nf,nf,ye (t:=decide (g.a≥0)) h1,ye (t:=decide (g.a<g.b)) h2,na (t:=decide (g.b<12)) h3,nf,nf,nf,nf,nf,nf] (by kernel_rfl)
     |false=>
       exact tr [cl (e_numbersC g.fm),.arr,cl hany,nf,nf,ye (t:=decide (g.a≥0)) h1,na (t:=decide (g.a<g.b)) h2,nf,nf,nf,nf,nf,nf,nf] (by kernel_rfl)
   |false=>
     exact tr [cl (e_numbersC g.fm),.arr,cl hany,nf,nf,na (t:=decide (g.a≥0)) h1,nf,nf,nf,nf,nf,nf,nf,nf] (by kernel_rfl)
noncomputable abbrev ff6:Func:=fnOf PP 103
theorem e_fits6 (hb : FBits k f) (hk : 1 ≤ k ∧ k ≤ 100000) (nd : Bool) : Pure PP 103 [.ag (dF f), bo nd] (bo (fitsB f nd)) := by
 let X:Nat→St:=fun i=>at_ ff6 [(1,bo nd),(2,.lp 0 0),(5,.sl ((nu f).map cN)),(6,ni i)] [.bx 40 (dF f)]
 refine pf (by kernel_rfl) (.to mo_ [] [1,2,5,6] [0] 1 [cl (e_numbersC6 f)] (td':=lp ff6 0) (σ':=X 0) ?_ (by kernel_rfl))
 refine Gd.loop X (fun i=>i≤6∧∀ t b,t<i→(nu f)[t]? =some b→badR nd b=false) (fun i=>6 - i) ?_ 0 ⟨Nat.zero_le _,no_zero⟩
 intro i ⟨hi,hI⟩ ih
 by_cases h:i<6
 · obtain⟨n,hn,hm⟩:=get_of (l:=nu f) h
   have hlt:decide ((i:Int)<(((nu f).map cN).length:Int))=true:=decide_eq_true (by show(i:Int)<6;omega)
   have hv:=e_valid4N (hb n hm) hk
   have hbad:badR nd n=true→fitsB f nd=false:=fun h=>by unfold fitsB;rw[List.any_eq_true.2 ⟨n,hm,h⟩];rfl
   cases h1:okB n with
   |false=>
    rw[h1]at hv
    rw[hbad (by unfold badR;rw[h1];rfl)]
    exact fi [ye hlt,.sel _ _ _ (sel_map (f:=cN) hn),cl hv,yt,yt] (by kernel_rfl) (by kernel_rfl)
   |true=>
    rw[h1]at hv
    obtain⟨r,rfl⟩:=okB_t h1
    have hB:badR nd (ofR r)=(!nd&&(sgnZ r.num != 0)):=by unfold badR;rw[h1,q_ofR];rfl
    cases nd with
    |true=>exact .to mo_ [] [1,2,5,6] [0] 1 [ye hlt,.sel _ _ _ (sel_map (f:=cN) hn),cl hv,nf,nf,nf,inc 15 i (by omega)] (ih (i+1) ⟨h,no_step hI hn (by rw[hB];rfl)⟩ (by omega)) (by kernel_rfl)
    |false=>
     cases h2:(sgnZ r.num != 0)with
     |true=>
      rw[hbad (by rw[hB,h2];rfl)]
      exact fi [ye hlt,.sel _ _ _ (sel_map (f:=cN) hn),cl hv,nf,yt,.sel _ _ _ (sel_map (f:=cN) hn),cl (e_sign4 r),ye (t:=sgnZ r.num != 0) h2] (by kernel_rfl) (by kernel_rfl)
     |false=>exact .to mo_ [] [1,2,5,6] [0] 1 [ye hlt,.sel _ _ _ (sel_map (f:=cN) hn),cl hv,nf,yt,.sel _ _ _ (sel_map (f:=cN) hn),cl (e_sign4 r),na (t:=sgnZ r.num != 0) h2,inc 15 i (by omega)] (ih (i+1) ⟨h,no_step hI hn (by rw[hB,h2];rfl)⟩ (by omega)) (by kernel_rfl)
 · have hB : (nu f).any (badR nd) = false := by
    rw[List.any_eq_false]
    intro n hn
    obtain⟨t,ht⟩:=List.getElem?_of_mem hn
    have:=hI t n (by have:=(List.getElem?_eq_some_iff.1 ht).1;have h6:(nu f).length=6:=rfl;omega) ht
    simp[this]
   have hge:decide ((i:Int)<(((nu f).map cN).length:Int))=false:=decide_eq_false (by show¬(i:Int)<6;omega)
   cases nd with
   | false =>
    have hS:fitsB f false=((f.a==0)&&(f.b==0)&&(f.ea==0)&&(f.eb==0)&&(f.many==0)):=by
     unfold fitsB
     rw[hB,Bool.eq_iff_iff]
     simp[wh,and_assoc]
    rw[hS]
    cases h10:(f.a==0:Bool)with
    | true =>
      cases h11:(f.b==0:Bool)with
      |true=>
        cases h12:(f.ea==0:Bool)with
        |true=>
          cases h13:(f.eb==0:Bool)with
          |true=>
            exact fi [na hge,yt,ye (t:=f.a==0) h10,ye (t:=f.b==0) h11,ye (t:=f.ea==0) h12,ye (t:=f.eb==0) h13] (by kernel_rfl) (by kernel_rfl)
          |false=>
            exact fi [na hge,yt,ye (t:=f.a==0) h10,ye (t:=f.b==0) h11,ye (t:=f.ea==0) h12,na (t:=f.eb==0) h13] (by kernel_rfl) (by kernel_rfl)
        |false=>
          exact fi [na hge,yt,ye (t:=f.a==0) h10,ye (t:=f.b==0) h11,na (t:=f.ea==0) h12,nf] (by kernel_rfl) (by kernel_rfl)
      |false=>
        exact fi [na hge,yt,ye (t:=f.a==0) h10,na (t:=f.b==0) h11,nf,nf] (by kernel_rfl) (by kernel_rfl)
    |false=>
      exact fi [na hge,yt,na (t:=f.a==0) h10,nf,nf,nf] (by kernel_rfl) (by kernel_rfl)
   | true =>
    rw[show fitsB f true=needB f from by unfold fitsB;rw[hB];rfl]
    obtain⟨g,rfl⟩:=all_ok hB
    have b0:=(hb (ofR g.r0) (by simp[nu,FQ.fm])).bq hk.1
    have b1:=(hb (ofR g.r1) (by simp[nu,FQ.fm])).bq hk.1
    have b2:=(hb (ofR g.r2) (by simp[nu,FQ.fm])).bq hk.1
    have b3:=(hb (ofR g.r3) (by simp[nu,FQ.fm])).bq hk.1
    have b4:=(hb (ofR g.r4) (by simp[nu,FQ.fm])).bq hk.1
    have b5:=(hb (ofR g.r5) (by simp[nu,FQ.fm])).bq hk.1
    have hN:needB g.fm=(!(decide (g.a<0)||decide (g.a≥g.b)||decide (g.b≥12)||decide (g.ea<0)||decide (g.ea>11)||decide (g.eb<0)||decide (g.eb>11)||decide (g.many<1)||decide (g.many>11))&&(oneB g.r0 g.r1&&decide (cmpQ g.r2 g.r4≤0)&&decide (cmpQ g.r3 g.r5≤0))):=by
     rw[show needB g.fm=(decide (g.a≥0)&&decide (g.a<g.b)&&decide (g.b<12)&&edgeB g.ea&&edgeB g.eb&&edgeB g.many&&decide (g.many>0)&&oneB g.r0 g.r1&&decide (cmpQ g.r2 g.r4≤0)&&decide (cmpQ g.r3 g.r5≤0))from by simp only[needB,FQ.fm,q_ofR];rfl]
     unfold edgeB
     rw[Bool.eq_iff_iff]
     simp only[Bool.and_eq_true,decide_eq_true_eq,Bool.not_eq_true',Bool.or_eq_false_iff,decide_eq_false_iff_not]
     constructor
     · rintro ⟨⟨⟨⟨⟨⟨⟨⟨⟨c1,c2⟩,c3⟩,c4⟩,c5⟩,c6⟩,c7⟩,c8⟩,c9⟩,c10⟩
       exact⟨⟨⟨⟨⟨⟨⟨⟨⟨by omega,by omega⟩,by omega⟩,by omega⟩,by omega⟩,by omega⟩,by omega⟩,by omega⟩,by omega⟩,⟨c8,c9⟩,c10⟩
     · rintro ⟨⟨⟨⟨⟨⟨⟨⟨⟨c1,c2⟩,c3⟩,c4⟩,c5⟩,c6⟩,c7⟩,c8⟩,c9⟩,⟨d1,d2⟩,d3⟩
       exact⟨⟨⟨⟨⟨⟨⟨⟨⟨by omega,by omega⟩,by omega⟩,⟨by omega,by omega⟩⟩,⟨by omega,by omega⟩⟩,⟨by omega,by omega⟩⟩,by omega⟩,d1⟩,d2⟩,d3⟩
    rw[hN]
    cases h14:(decide (g.a<0):Bool)with
    |true=>
      exact fi [na hge,nf,ye (t:=decide (g.a<0)) h14,yt,yt,yt,yt,yt,yt,yt,yt] (by kernel_rfl) (by kernel_rfl)
    | false =>
      cases h15:(decide (g.a≥g.b):Bool)with
      |true=>
        exact fi [na hge,nf,na (t:=decide (g.a<0)) h14,ye (t:=decide (g.a≥g.b)) h15,yt,yt,yt,yt,yt,yt,yt] (by kernel_rfl) (by kernel_rfl)
      | false =>
        cases h16:(decide (g.b≥12):Bool)with
        |true=>
          exact fi [na hge,nf,na (t:=decide (g.a<0)) h14,na (t:=decide (g.a≥g.b)) h15,ye (t:=decide (g.b≥12)) h16,yt,yt,yt,yt,yt,yt] (by kernel_rfl) (by kernel_rfl)
        | false =>
          cases h17:(decide (g.ea<0):Bool)with
          |true=>
            exact fi [na hge,nf,na (t:=decide (g.a<0)) h14,na (t:=decide (g.a≥g.b)) h15,na (t:=decide (g.b≥12)) h16,ye (t:=decide (g.ea<0)) h17,yt,yt,yt,yt,yt] (by kernel_rfl) (by kernel_rfl)
          | false =>
            cases h18:(decide (g.ea>11):Bool)with
            |true=>
              exact fi [na hge,nf,na (t:=decide (g.a<0)) h14,na (t:=decide (g.a≥g.b)) h15,na (t:=decide (g.b≥12)) h16,na (t:=decide (g.ea<0)) h17,ye (t:=decide (g.ea>11)) h18,yt,yt,yt,yt] (by kernel_rfl) (by kernel_rfl)
            | false =>
              cases h19:(decide (g.eb<0):Bool)with
              |true=>
                exact fi [na hge,nf,na (t:=decide (g.a<0)) h14,na (t:=decide (g.a≥g.b)) h15,na (t:=decide (g.b≥12)) h16,na (t:=decide (g.ea<0)) h17,na (t:=decide (g.ea>11)) h18,ye (t:=decide (g.eb<0)) h19,yt,yt,yt] (by kernel_rfl) (by kernel_rfl)
              | false =>
                cases h20:(decide (g.eb>11):Bool)with
                |true=>
                  exact fi [na hge,nf,na (t:=decide (g.a<0)) h14,na (t:=decide (g.a≥g.b)) h15,na (t:=decide (g.b≥12)) h16,na (t:=decide (g.ea<0)) h17,na (t:=decide (g.ea>11)) h18,na (t:=decide (g.eb<0)) h19,ye (t:=decide (g.eb>11)) h20,yt,yt] (by kernel_rfl) (by kernel_rfl)
                | false =>
                  cases h21:(decide (g.many<1):Bool)with
                  |true=>
                    exact fi [na hge,nf,na (t:=decide (g.a<0)) h14,na (t:=decide (g.a≥g.b)) h15,na (t:=decide (g.b≥12)) h16,na (t:=decide (g.ea<0)) h17,na (t:=decide (g.ea>11)) h18,na (t:=decide (g.eb<0)) h19,na (t:=decide (g.eb>11)) h20,ye (t:=decide (g.many<1)) h21,yt] (by kernel_rfl) (by kernel_rfl)
                  | false =>
                    cases h22:(decide (g.many>11):Bool)with
                    |true=>
                      exact fi [na hge,nf,na (t:=decide (g.a<0)) h14,na (t:=decide (g.a≥g.b)) h15,na (t:=decide (g.b≥12)) h16,na (t:=decide (g.ea<0)) h17,na (t:=decide (g.ea>11)) h18,na (t:=decide (g.eb<0)) h19,na (t:=decide (g.eb>11)) h20,na (t:=decide (g.many<1)) h21,ye (t:=decide (g.many>11)) h22] (by kernel_rfl) (by kernel_rfl)
                    |false=>
                      cases h23:(oneB g.r0 g.r1:Bool)with
                      |true=>
                        cases h24:(decide (cmpQ g.r2 g.r4≤0):Bool)with
                        |true=>
                          exact fi [na hge,nf,na (t:=decide (g.a<0)) h14,na (t:=decide (g.a≥g.b)) h15,na (t:=decide (g.b≥12)) h16,na (t:=decide (g.ea<0)) h17,na (t:=decide (g.ea>11)) h18,na (t:=decide (g.eb<0)) h19,na (t:=decide (g.eb>11)) h20,na (t:=decide (g.many<1)) h21,na (t:=decide (g.many>11)) h22,cl (e_mul4 b0 b0 (by omega)),cl (e_mul4 b1 b1 (by omega)),cl (e_add4 (b0.mul b0) (b1.mul b1) (by omega)),cl (e_of4 (x:=1) (y:=1) ⟨by decide,by decide⟩ ⟨by decide,by decide⟩),cl (e_same4 (g.r0*g.r0+g.r1*g.r1) (Rat.divInt 1 1)),ye (t:=oneB g.r0 g.r1) h23,cl (e_cmp4 b2 b4 (by omega)),ye (t:=decide (cmpQ g.r2 g.r4≤0)) h24,cl (e_cmp4 b3 b5 (by omega))] (by kernel_rfl) (by kernel_rfl)
                        |false=>
                          exact fi [na hge,nf,na (t:=decide (g.a<0)) h14,na (t:=decide (g.a≥g.b)) h15,na (t:=decide (g.b≥12)) h16,na (t:=decide (g.ea<0)) h17,na (t:=decide (g.ea>11)) h18,na (t:=decide (g.eb<0)) h19,na (t:=decide (g.eb>11)) h20,na (t:=decide (g.many<1)) h21,na (t:=decide (g.many>11)) h22,cl (e_mul4 b0 b0 (by omega)),cl (e_mul4 b1 b1 (by omega)),cl (e_add4 (b0.mul b0) (b1.mul b1) (by omega)),cl (e_of4 (x:=1) (y:=1) ⟨by decide,by decide⟩ ⟨by decide,by decide⟩),cl (e_same4 (g.r0*g.r0+g.r1*g.r1) (Rat.divInt 1 1)),ye (t:=oneB g.r0 g.r1) h23,cl (e_cmp4 b2 b4 (by omega)),na (t:=decide (cmpQ g.r2 g.r4≤0)) h24] (by kernel_rfl) (by kernel_rfl)
                      |false=>
                        exact fi [na hge,nf,na (t:=decide (g.a<0)) h14,na (t:=decide (g.a≥g.b)) h15,na (t:=decide (g.b≥12)) h16,na (t:=decide (g.ea<0)) h17,na (t:=decide (g.ea>11)) h18,na (t:=decide (g.eb<0)) h19,na (t:=decide (g.eb>11)) h20,na (t:=decide (g.many<1)) h21,na (t:=decide (g.many>11)) h22,cl (e_mul4 b0 b0 (by omega)),cl (e_mul4 b1 b1 (by omega)),cl (e_add4 (b0.mul b0) (b1.mul b1) (by omega)),cl (e_of4 (x:=1) (y:=1) ⟨by decide,by decide⟩ ⟨by decide,by decide⟩),cl (e_same4 (g.r0*g.r0+g.r1*g.r1) (Rat.divInt 1 1)),na (t:=oneB g.r0 g.r1) h23,nf] (by kernel_rfl) (by kernel_rfl)
end
end Go.Proofs.YtfdfbenejkmnlaaGreatDoor.E.Ca
