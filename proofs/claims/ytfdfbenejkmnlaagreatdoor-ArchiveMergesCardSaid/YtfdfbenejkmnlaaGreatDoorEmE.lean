/-
 THE SECOND ENGINE, 5: values handed to a callee, or to the caller.
-/
import Derived.Test.YtfdfbenejkmnlaaGreatDoorEmD
namespace Go.Proofs.YtfdfbenejkmnlaaGreatDoor.E
open Go.RowKit
set_option linter.unusedVariables false
set_option linter.unusedSimpArgs false
section
variable {B:Nat→Prop} {M:Nat→Prop} {h:Nat→HO} {m m':Nat→Option Value} {w w':World} {A A':Nat→Prop} {P:Program}
theorem flat_get {z:Nat}:∀ {l:List (List V)} {i j:Nat} {cs:List V} {x:V},(∀ cs∈l,cs.length=z)→l[i]? =some cs→cs[j]? =some x→l.flatten[i*z+j]? =some x
 |[],i,j,cs,x,_,h1,_=>by simp at h1
 |c::r,0,j,cs,x,hz,h1,h2=>by
  simp only[List.getElem?_cons_zero,Option.some.injEq]at h1
  subst h1
  have:=(List.getElem?_eq_some_iff.1 h2).1
  rw[List.flatten_cons,Nat.zero_mul,Nat.zero_add,List.getElem?_append_left this]
  exact h2
 |c::r,i+1,j,cs,x,hz,h1,h2=>by
  have hc:=hz c (List.mem_cons_self ..)
  have:=flat_get (l:=r) (fun cs hcs=>hz cs (List.mem_cons_of_mem _ hcs)) (by simpa using h1) h2
  rw[List.flatten_cons,List.getElem?_append_right (by rw[hc,Nat.succ_mul];omega),hc,show(i+1)*z+j - z=i*z+j by rw[Nat.succ_mul];omega]
  exact this
theorem flat_len {z:Nat}:∀ {l:List (List V)},(∀ cs∈l,cs.length=z)→l.flatten.length=l.length*z
 |[],_=>by simp
 |c::r,h=>by
  rw[List.flatten_cons,List.length_append,flat_len fun cs hcs=>h cs (List.mem_cons_of_mem _ hcs),h c (List.mem_cons_self ..),List.length_cons,Nat.succ_mul]
  omega
/-- What says nothing of names stays where less is avoided. -/
theorem shut {x:V} {u:Value} (hr:Rep w A m u x) (hA:∀ g,A' g→A g) (hx:∀ b o,x≠ .lp b o) (hx2:∀ b z i o,x≠ .rp b z i o) (hx3:∀ b,x≠ .ow b∧x≠ .nm b) (hx7:∀ b z i j,x≠ .os b z i j∧x≠ .bs b z i j) (hx4:∀ l,x≠ .ag l) (hx5:∀ l,x≠ .tu l) (hx6:∀ f l,x≠ .cl f l):Rep w A' no u x:=by
 have g:Mo w A no w A' no:=⟨Nat.le_refl _,fun _ _ _=>rfl,fun g e=> .inl (hA g e),fun _ _ e=>e⟩
 cases hr with
 |k=>exact .k _ _
 |un=>exact .un _ _
 |sl _ a b o c z l us h1 h2 h3 h4 h5 h6=>exact .sl _ a b o c z l us h1 h2 (fun hn=>⟨(h3 hn).1,fun e=>(h3 hn).2.1 (hA b e),(h3 hn).2.2⟩) h4 h5 fun i j cs x e1 e2=>(h6 i j cs x e1 e2).mo g
 |ip _ b o l us h3 h4 h5 h6=>exact .ip _ b o l us (fun e=>h3 (hA b e)) h4 h5 fun j x e=>(h6 j x e).mo g
 |lp _ b o=>exact absurd rfl (hx b o)
 |rp _ b z i o=>exact absurd rfl (hx2 b z i o)
 |os _ b z i j=>exact absurd rfl (hx7 b z i j).1
 |bs _ b o n c=>exact absurd rfl (hx7 b o n c).2
 |ow _ b=>exact absurd rfl (hx3 b).1
 |nm _ b=>exact absurd rfl (hx3 b).2
 |ag _ cs l=>exact absurd rfl (hx4 l)
 |tu _ cs l=>exact absurd rfl (hx5 l)
 |cl _ f cs l=>exact absurd rfl (hx6 f l)
 |nl _=>exact .nl _
theorem exps_rep {g : V → Option (V × List Nat)} {C : Nat → Prop} (hg : ∀ x y ks, g x = some (y, ks) → (∀ b ∈ ks, C b) → ∀ u, Rep w A m u x → Rep w A' no u y) :
  ∀ (l ys:List V) (ks:List Nat),exps g l=some (ys,ks)→(∀ b∈ks,C b)→ys.length=l.length∧∀ (j:Nat) (y:V),ys[j]? =some y→∀ (u:Value),(∀ x,l[j]? =some x→Rep w A m u x)→Rep w A' no u y
 |[],ys,ks,e,_=>by
  simp only[exps,Option.some.injEq,Prod.mk.injEq]at e
  obtain⟨rfl,rfl⟩:=e
  exact⟨rfl,fun j y hy=>by simp at hy⟩
 | x :: r, ys, ks, e, hc => by
  unfold exps at e
  split at e
  · rename_i y k hy
    split at e
    · rename_i ys' ks' hys
      simp only[Option.some.injEq,Prod.mk.injEq]at e
      obtain⟨rfl,rfl⟩:=e
      obtain⟨h1,h2⟩:=exps_rep hg r ys' ks' hys fun b hb=>hc b (List.mem_append.2 (.inr hb))
      refine⟨by simp[h1],fun j z hz u hu=> ?_⟩
      cases j with
      |zero=>
        simp only[List.getElem?_cons_zero,Option.some.injEq]at hz
        subst hz
        exact hg x y k hy (fun b hb=>hc b (List.mem_append.2 (.inl hb))) u (hu x rfl)
      |succ j=>
        simp only[List.getElem?_cons_succ]at hz
        exact h2 j z hz u fun x hx=>hu x (by simpa using hx)
    · cases e
  · cases e
theorem exp_rep {h0 : Nat → HO} (K : Ok B M h m w) (hA : ∀ g, A' g → Av M h m g) : ∀ (n : Nat) (x y : V) (ks : List Nat), exp h0 n x = some (y, ks) → (∀ b ∈ ks, h b = h0 b ∧ ∀ v g, m b = some v → blk v = some g → ¬ A' g) → ∀ u, Rep w (Av M h m) m u x → Rep w A' no u y
 |0,x,y,ks,e,_,_,_=>by cases e
 | n + 1, x, y, ks, e, hk, u, hr => by
  have ih:=exps_rep (C:=fun b=>h b=h0 b∧∀ v g,m b=some v→blk v=some g→¬A' g) (fun x y ks e hc u hr=>exp_rep K hA n x y ks e hc u hr)
  have hout:∀ {x:V},some (x,[])=some (y,ks)→Rep w (Av M h m) m u x→(∀ b o,x≠ .lp b o)→(∀ b z i o,x≠ .rp b z i o)→(∀ b,x≠ .ow b∧x≠ .nm b)→(∀ b z i j,x≠ .os b z i j∧x≠ .bs b z i j)→(∀ l,x≠ .ag l)→(∀ l,x≠ .tu l)→(∀ f l,x≠ .cl f l)→Rep w A' no u y:=by
   intro x e hr
   simp only[Option.some.injEq,Prod.mk.injEq]at e
   obtain⟨rfl,rfl⟩:=e
   exact shut hr hA
  cases x with
  |k v=>exact hout e hr (by simp) (by simp) (by simp) (by simp) (by simp) (by simp) (by simp)
  |op q=>cases hr
  |nm b=>cases e
  |un=>exact hout e hr (by simp) (by simp) (by simp) (by simp) (by simp) (by simp) (by simp)
  |sl l=>exact hout e hr (by simp) (by simp) (by simp) (by simp) (by simp) (by simp) (by simp)
  |ip l=>exact hout e hr (by simp) (by simp) (by simp) (by simp) (by simp) (by simp) (by simp)
  |nl=>
    cases hr with
    |nl=>
      simp only[exp,Option.some.injEq,Prod.mk.injEq]at e
      obtain⟨rfl,rfl⟩:=e
      exact .sl _ none 0 0 0 0 [] (fun _ _=>undef) (Nat.le_refl _) (by decide) (fun h=>by simp at h) (fun _ h=>by simp at h) (fun i j cs x h=>by simp at h) (fun i j cs x h=>by simp at h)
  |rp b z i o=>simp[exp]at e
  |os b z i j=>simp[exp]at e
  |bs b o n c=>simp[exp]at e
  |cl f l=>
    simp only[exp]at e
    split at e
    · rename_i ys ks' hys
      simp only[Option.some.injEq,Prod.mk.injEq]at e
      obtain⟨rfl,rfl⟩:=e
      cases hr with
      |cl _ _ cs _ h1 h2=>
        obtain⟨k1,k2⟩:=ih l ys _ hys hk
        exact .cl _ f cs ys (by omega) fun j y hy=>k2 j y hy _ fun x hx=>h2 j x hx
    · cases e
  |ag l=>
    simp only[exp]at e
    split at e
    · rename_i ys ks' hys
      simp only[Option.some.injEq,Prod.mk.injEq]at e
      obtain⟨rfl,rfl⟩:=e
      cases hr with
      |ag _ cs _ h1 h2=>
        obtain⟨k1,k2⟩:=ih l ys _ hys hk
        exact .ag _ cs ys (by omega) fun j y hy=>k2 j y hy _ fun x hx=>h2 j x hx
    · cases e
  |tu l=>
    simp only[exp]at e
    split at e
    · rename_i ys ks' hys
      simp only[Option.some.injEq,Prod.mk.injEq]at e
      obtain⟨rfl,rfl⟩:=e
      cases hr with
      |tu _ cs _ h1 h2=>
        obtain⟨k1,k2⟩:=ih l ys _ hys hk
        exact .tu _ cs ys (by omega) fun j y hy=>k2 j y hy _ fun x hx=>h2 j x hx
    · cases e
  | lp b o =>
    simp only[exp]at e
    split at e
    · rename_i T l hb
      split at e
      · rename_i ys ks' hys
        simp only[Option.some.injEq,Prod.mk.injEq]at e
        obtain⟨rfl,rfl⟩:=e
        obtain⟨k1,k2⟩:=ih l ys _ hys fun b' hb'=>hk b' (List.mem_cons_of_mem _ hb')
        obtain⟨g,cs,h1,h2,h3,h4,h5⟩:=K.bx b T l ((hk b (List.mem_cons_self ..)).1.trans hb)
        cases hr with
        |lp _ _ _ g' hg'=>
          rw[h1]at hg'
          injection hg' with hg'
          injection hg' with hg'
          injection hg' with hg'
          injection hg' with hg'
          subst hg'
          refine .ip _ g o _ (fun j=>cs.getD (o+j) undef) ((hk b (List.mem_cons_self ..)).2 _ g h1 rfl) ⟨_,_,_,h3⟩ (fun j x hx=> ?_) fun j x hx=> ?_
          · rw[List.getElem?_drop]at hx
            have hlt:=(List.getElem?_eq_some_iff.1 hx).1
            have:o+j<cs.size:=by omega
            simp[World.cell?,h3,Array.getD_eq_getD_getElem?,Array.getElem?_eq_getElem this]
          · rw[List.getElem?_drop]at hx
            exact k2 (o+j) x hx _ fun x' hx'=>h5 (o+j) x' hx'
      · cases e
    · cases e
  | ow b =>
    simp only[exp]at e
    split at e
    · rename_i T z l hb
      simp only[Option.some.injEq,Prod.mk.injEq]at e
      obtain⟨rfl,rfl⟩:=e
      obtain⟨v,xs,h1,h2,h3,h0',h4⟩:=K.rw b T z l ((hk b (List.mem_cons_self ..)).1.trans hb)
      cases hr with
      | ow _ _ a n c hm =>
        rw[h1]at hm
        injection hm with hm
        subst hm
        have hmo:Mo w (Av M h m) no w A' no:=⟨Nat.le_refl _,fun _ _ _=>rfl,fun g e=> .inl (hA g e),fun _ _ e=>e⟩
        rcases h3.2 with⟨h5,h6⟩|⟨g,cap,cur,h5,hB,hh,h6,h7,h8,h9⟩
        · injection h5 with h5a h5b h5c
          subst h5a;subst h5b;subst h5c
          have hl:l=[]:=List.eq_nil_of_length_eq_zero h6
          subst hl
          exact .sl _ none 0 0 0 0 [] (fun _ _=>undef) (Nat.le_refl _) (by decide) (fun h=>by simp at h) (fun _ h=>by simp at h) (fun i j cs x h=>by simp at h) (fun i j cs x h=>by simp at h)
        · injection h5 with h5a h5b h5c
          subst h5a;subst h5b;subst h5c
          have hget:∀ i j cs x,l[i]? =some cs→cs[j]? =some x→∃ u,xs[i*z+j]? =some u∧cur[i*z+j]? =some u:=by
           intro i j cs x e1 e2
           have h10:=flat_get h2 e1 e2
           have h11:=(List.getElem?_eq_some_iff.1 h10).1
           have h12:=flat_len h2
           have h13:i*z+j<xs.length:=by rw[h3.1];omega
           obtain⟨u,hu⟩:∃ u,xs[i*z+j]? =some u:=⟨_,List.getElem?_eq_getElem h13⟩
           refine⟨u,hu, ?_⟩
           rw[←h9,List.getElem?_take]at hu
           split at hu
           · rw[←Array.getElem?_toList,hu]
           · cases hu
          refine .sl _ _ g 0 _ z l (fun i j=>xs.getD (i*z+j) undef) h6 h7 (fun _=>⟨rfl,(hk b (List.mem_cons_self ..)).2 _ g h1 rfl,⟨_,_,_,hh⟩⟩) h2 (fun i j cs x e1 e2=> ?_) fun i j cs x e1 e2=> ?_
          · obtain⟨u,hu1,hu2⟩:=hget i j cs x e1 e2
            simp[World.cell?,hh,List.getD_eq_getElem?_getD,hu1,hu2]
          · exact(h4 _ x (flat_get h2 e1 e2)).mo hmo
    · cases e
theorem exps_live {g:V→Option (V×List Nat)} {C:Nat→Prop} (hg:∀ x y ks,g x=some (y,ks)→∀ b∈ks,C b):∀ (l ys:List V) (ks:List Nat),exps g l=some (ys,ks)→∀ b∈ks,C b
 |[],ys,ks,e,b,hb=>by
  simp only[exps,Option.some.injEq,Prod.mk.injEq]at e
  obtain⟨rfl,rfl⟩:=e
  cases hb
 | x :: r, ys, ks, e, b, hb => by
  unfold exps at e
  split at e
  · rename_i y k hy
    split at e
    · rename_i ys' ks' hys
      simp only[Option.some.injEq,Prod.mk.injEq]at e
      obtain⟨rfl,rfl⟩:=e
      rcases List.mem_append.1 hb with hb|hb
      · exact hg x y k hy b hb
      · exact exps_live hg r ys' ks' hys b hb
    · cases e
  · cases e
theorem exp_live {h0 : Nat → HO} : ∀ (n : Nat) (x y : V) (ks : List Nat), exp h0 n x = some (y, ks) → ∀ b ∈ ks, (h0 b).own = true
 |0,x,y,ks,e,_,_=>by cases e
 |n+1,x,y,ks,e,c,hc=>by
  have ih:=exps_live (C:=fun b=>(h0 b).own=true) (fun x y ks e=>exp_live (h0:=h0) n x y ks e)
  cases x with
  |lp b o=>
    simp only[exp]at e
    split at e
    · rename_i T l hb
      split at e
      · rename_i ys ks' hys
        simp only[Option.some.injEq,Prod.mk.injEq]at e
        obtain⟨rfl,rfl⟩:=e
        rcases List.mem_cons.1 hc with rfl|hc
        · rw[hb];rfl
        · exact ih l ys _ hys c hc
      · cases e
    · cases e
  |ow b=>
    simp only[exp]at e
    split at e
    · rename_i T l hb
      simp only[Option.some.injEq,Prod.mk.injEq]at e
      obtain⟨rfl,rfl⟩:=e
      simp only[List.mem_singleton]at hc
      subst hc
      rw[hb];rfl
    · cases e
  |ag l=>
    simp only[exp]at e
    split at e
    · rename_i ys ks' hys
      simp only[Option.some.injEq,Prod.mk.injEq]at e
      obtain⟨rfl,rfl⟩:=e
      exact ih l ys _ hys c hc
    · cases e
  |tu l=>
    simp only[exp]at e
    split at e
    · rename_i ys ks' hys
      simp only[Option.some.injEq,Prod.mk.injEq]at e
      obtain⟨rfl,rfl⟩:=e
      exact ih l ys _ hys c hc
    · cases e
  |cl f l=>
    simp only[exp]at e
    split at e
    · rename_i ys ks' hys
      simp only[Option.some.injEq,Prod.mk.injEq]at e
      obtain⟨rfl,rfl⟩:=e
      exact ih l ys _ hys c hc
    · cases e
  |rp b z i o=>simp[exp]at e
  |os b z i j=>simp[exp]at e
  |bs b o n c=>simp[exp]at e
  |nm b=>simp[exp]at e
  |_=>
    simp only[exp,Option.some.injEq,Prod.mk.injEq]at e
    rw[←e.2]at hc
    cases hc
theorem upds_kills {h:Nat→HO}:∀ {ks:List Nat} {c:Nat},(upds h (kills ks) c).own=true→c∉ks∧upds h (kills ks) c=h c
 |[],c,e=>⟨by simp,rfl⟩
 |b::r,c,e=>by
  by_cases hc:c=b
  · subst hc;have e2:upds h (kills (c::r)) c= .dead:=upd_eq;rw[e2]at e;cases e
  · have h1:upds h (kills (b::r)) c=upds h (kills r) c:=upd_ne hc
    rw[h1]at e⊢
    obtain⟨h2,h3⟩:=upds_kills e
    exact⟨by simp[hc,h2],h3⟩
theorem Ok.kills (K:Ok B M h m w):∀ ks:List Nat,Ok B M (upds h (kills ks)) m w
 |[]=>K
 |b::r=>(Ok.kills K r).kill b
theorem Mo.kills:∀ ks:List Nat,Mo w (Av M h m) m w (Av M (upds h (kills ks)) m) m
 |[]=>Mo.refl
 |b::r=>(Mo.kills r).trans Mo.kill
theorem kills_out (K:Ok B M h m w) {ks:List Nat} {b:Nat} {v:Value} {g:Nat} (hb:b∈ks) (hd:(h b).own=true) (hm:m b=some v) (hg:blk v=some g):¬Av M (upds h (kills ks)) m g:=by
 rintro (e|⟨c,u,h1,h2,h3⟩)
 · have h1:=K.mb g e
   have h2:=(K.blk hd hm hg).1
   exact h2 h1
 · obtain⟨h4,h5⟩:=upds_kills h1
   rw[h5]at h1
   have:=K.inj c b u v g h1 hd h2 hm h3 hg
   subst this
   exact h4 hb
theorem isK_rep {x:V} {u:Value} (hf:isK x=true) (hr:Rep w A m u x):Rep w A' m' u x:=by
 cases x with
 |k v=>cases hr;exact .k _ _
 |_=>cases hf
theorem flat1_rep {x:V} {u:Value} (hf:flat1 x=true) (hr:Rep w A m u x):Rep w A' m' u x:=by
 cases x with
 |ag l=>
   cases hr with
   |ag _ cs _ h1 h2=>
     simp only[flat1,List.all_eq_true]at hf
     exact .ag _ cs l h1 fun j y hy=>isK_rep (hf y (List.mem_of_getElem? hy)) (h2 j y hy)
 |_=>exact isK_rep hf hr
theorem flat_rep {x:V} {u:Value} (hf:flat x=true) (hr:Rep w A m u x):Rep w A' m' u x:=by
 cases x with
 |tu l=>
   cases hr with
   |tu _ cs _ h1 h2=>
     simp only[flat,List.all_eq_true]at hf
     exact .tu _ cs l h1 fun j y hy=>flat1_rep (hf y (List.mem_of_getElem? hy)) (h2 j y hy)
 |_=>exact flat1_rep hf hr
/-- Many turn at once. -/
theorem updsI {h h':Nat→HO}:∀ (fs:List (Nat×HO)) (c:Nat),c∈fs.map (·.1)→upds h fs c=upds h' fs c
 | (b, x) :: r, c, hc => by
  show upd (upds h r) b x c=upd (upds h' r) b x c
  by_cases e:c=b
  · subst e;rw[upd_eq,upd_eq]
  · rw[upd_ne e,upd_ne e]
    simp only[List.map_cons,List.mem_cons]at hc
    exact updsI r c (hc.resolve_left e)
theorem updsO {h:Nat→HO}:∀ (fs:List (Nat×HO)) (c:Nat),c∉fs.map (·.1)→upds h fs c=h c
 |[],c,_=>rfl
 |(b,x)::r,c,hc=>by
  simp only[List.map_cons,List.mem_cons,not_or]at hc
  show upd (upds h r) b x c=h c
  rw[upd_ne hc.1]
  exact updsO r c hc.2
theorem setfzs (K : Ok B M h m w) : ∀ fs : List (Nat × HO), (∀ p ∈ fs, (h p.1).own = false ∧ (p.2 = .dead ∨ ∃ y v, p.2 = .fz y ∧ m p.1 = some v ∧ Rep w (Av M h m) no v y)) → Ok B M (upds h fs) m w ∧ (∀ g, Av M (upds h fs) m g ↔ Av M h m g) ∧ ∀ c, (h c).own = false → (upds h fs c).own = false
 |[],_=>⟨K,fun _=>Iff.rfl,fun _ e=>e⟩
 | (b, x) :: r, hp => by
  obtain⟨k1,k2,k3⟩:=setfzs K r fun p h=>hp p (List.mem_cons_of_mem _ h)
  obtain⟨q1,q2⟩:=hp (b,x) (List.mem_cons_self ..)
  have q3:=k3 b q1
  have hown:∀ c,(h c).own=false→(upds h ((b,x)::r) c).own=false:=fun c hc=>by
   show(upd (upds h r) b x c).own=false
   by_cases e:c=b
   · subst e
     rw[upd_eq]
     rcases q2 with e2|⟨y,v,e2,_⟩
     · rw[show x= .dead from e2];rfl
     · rw[show x= .fz y from e2];rfl
   · rw[upd_ne e];exact k3 c hc
  rcases q2 with e|⟨y,v,e,q4,q5⟩
  · have e:x= .dead:=e
    subst e
    refine⟨k1.kill b,fun g=>⟨fun q=>(k2 g).1 (av_kill q),fun q=> ?_⟩,hown⟩
    rcases(k2 g).2 q with q|⟨c,v,h1,h2,h3⟩
    · exact .inl q
    · refine .inr ⟨c,v, ?_,h2,h3⟩
      by_cases hc:c=b
      · subst hc;rw[q3]at h1;cases h1
      · show(upd (upds h r) b .dead c).own=true
        rwa [upd_ne hc]
  · have e:x= .fz y:=e
    subst e
    have hmo:Mo w (Av M h m) m w (Av M (upds h r) m) m:=⟨Nat.le_refl _,fun _ _ _=>rfl,fun g q=> .inl ((k2 g).1 q),fun _ _ q=>q⟩
    obtain⟨k4,k5⟩:=k1.setfz q3 q4 (q5.mo hmo.no)
    exact⟨k4,fun g=>(k5 g).trans (k2 g),hown⟩
theorem self_rep (K:Ok B M h m w) {b:Nat} (hb:(h b).own=true):∃ v,m b=some v∧Rep w (Av M h m) m v (self b (h b)):=by
 cases hx:h b with
 |dead=>rw[hx]at hb;cases hb
 |fz x=>rw[hx]at hb;cases hb
 |bx T l=>
   obtain⟨g,cs,h1,_⟩:=K.bx b T l hx
   exact⟨_,h1,.lp _ b 0 g h1⟩
 |rw T z l=>
   obtain⟨v,xs,h1,_,h3,_⟩:=K.rw b T z l hx
   rcases h3.2 with⟨rfl,_⟩|⟨g,cap,cur,rfl,_⟩
   · exact⟨_,h1,.ow _ b _ _ _ h1⟩
   · exact⟨_,h1,.ow _ b _ _ _ h1⟩
 |mp l=>
   obtain⟨g,h1,_⟩:=K.mp b l hx
   exact⟨_,h1,.nm _ b _ h1⟩
/-- What a call was given is frozen. -/
theorem frzs_ok (K : Ok B M h m w) {h0 : Nat → HO} {ks : List Nat} (hr : ∀ b ∈ ks, h b = h0 b) (hl : ∀ b ∈ ks, (h0 b).own = true) : Ok B M (upds h (ks.map fun b => (b, frz h0 ks b))) m w ∧ ∀ g, Av M (upds h (ks.map fun b => (b, frz h0 ks b))) m g ↔ Av M (upds h (kills ks)) m g := by
 have hkey:(ks.map fun b=>(b,frz h0 ks b)).map (·.1)=ks:=by rw[List.map_map];exact(List.map_congr_left fun b _=>rfl).trans (List.map_id ks)
 have hkey2:(kills ks).map (·.1)=ks:=by unfold kills;rw[List.map_map];exact(List.map_congr_left fun b _=>rfl).trans (List.map_id ks)
 have he:upds (upds h (kills ks)) (ks.map fun b=>(b,frz h0 ks b))=upds h (ks.map fun b=>(b,frz h0 ks b)):=by
  funext c
  by_cases hc:c∈ks
  · exact updsI _ c (by rw[hkey];exact hc)
  · have n1:c∉(ks.map fun b=>(b,frz h0 ks b)).map (·.1):=by rw[hkey];exact hc
    have n2:c∉(kills ks).map (·.1):=by rw[hkey2];exact hc
    rw[updsO _ c n1,updsO _ c n1,updsO _ c n2]
 have hdead:∀ c∈ks,upds h (kills ks) c= .dead:=by
  intro c hc
  have : ∀ ks : List Nat, c ∈ ks → upds h (kills ks) c = .dead := by
   intro ks
   induction ks with
   |nil=>intro h;cases h
   |cons b r ih=>
     intro hc
     show upd (upds h (kills r)) b .dead c= .dead
     by_cases e:c=b
     · subst e;exact upd_eq
     · rw[upd_ne e]
       exact ih ((List.mem_cons.1 hc).resolve_left e)
  exact this ks hc
 rw[←he]
 obtain ⟨k1, k2, _⟩ := setfzs (K.kills ks) (ks.map fun b => (b, frz h0 ks b)) fun p hp => by
  obtain⟨b,hb,rfl⟩:=List.mem_map.1 hp
  refine⟨by show(upds h (kills ks) b).own=false;rw[hdead b hb];rfl, ?_⟩
  show frz h0 ks b= .dead∨_
  unfold frz
  split
  · rename_i y k2 hy
    split
    · rename_i hk2
      refine .inr ⟨y, ?_⟩
      obtain⟨v,h1,h2⟩:=self_rep K (b:=b) (by rw[hr b hb];exact hl b hb)
      rw[hr b hb]at h2
      refine⟨v,rfl,h1,exp_rep K (fun g e=> ?_) 5 _ _ _ hy (fun c hc=> ?_) v h2⟩
      · rcases(Mo.kills (h:=h) (M:=M) (m:=m) (w:=w) ks).av g e with h3|h3
        · exact h3
        · exact absurd ((K.kills ks).av_lt e) (by omega)
      · have hck:c∈ks:=by
         have:=List.all_eq_true.1 hk2 c hc
         simpa using this
        exact⟨hr c hck,fun v g h3 h4=>kills_out K hck (by rw[hr c hck];exact hl c hck) h3 h4⟩
    · exact .inl rfl
  · exact .inl rfl
 exact⟨k1,k2⟩
theorem Mo.frzs (K:Ok B M h m w) {h0:Nat→HO} {ks:List Nat} (hr:∀ b∈ks,h b=h0 b) (hl:∀ b∈ks,(h0 b).own=true):Mo w (Av M h m) m w (Av M (upds h (ks.map fun b=>(b,frz h0 ks b))) m) m:=
 ⟨Nat.le_refl _,fun _ _ _=>rfl,fun g e=>(Mo.kills ks).av g (((frzs_ok K hr hl).2 g).1 e),fun _ _ e=>e⟩
end
end Go.Proofs.YtfdfbenejkmnlaaGreatDoor.E
