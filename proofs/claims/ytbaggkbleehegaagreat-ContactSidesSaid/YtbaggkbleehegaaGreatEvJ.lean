/-
 CONTACT: equal touches are reported as such, by the engine.
-/
import Derived.Test.YtbaggkbleehegaaGreatEvB
namespace Go.Proofs.YtbaggkbleehegaaGreat.E.Ct
open Go.RowKit
set_option linter.unusedVariables false
set_option linter.unusedSimpArgs false
section
variable {s : Su} {b k : Nat}
section
variable {lb : Array Value} {l B0 : Nat} {J Jx : SD (Vc × Vc) → World → Prop}
theorem sg_2 (h : s.Ok b) (aJx : AbidesFrom B0 Jx) (hY : HY l (Nx s.L.length b) J Jx) (hk : k < s.L.length) (next : GS lb J Jx s.segs (s.p2 (k + 1)) (lp fsg 1) (sg0 s l [(79, ni ((s.m + 1 : Nat) : Int)), (80, ni ((k + 1 : Nat) : Int))])) : GS lb J Jx s.segs (s.p2 k) (lp fsg 1) (sg0 s l [(79, ni ((s.m + 1 : Nat) : Int)), (80, ni (k : Int))]) := by
 have hb : E.okB PP 131 = true := by kernel_rfl
 have hkb := h.k
 have hn := h.n
 have hmm := h.hm
 have hm := s.nx_lt h k
 have hq := s.bf_lt h k
 have e1 := Su.el hk
 have e2 := Su.el hm
 have e3 := Su.el hq
 have lv := e_slevel h hk
 have lw := e_slevel h hq
 have nr := e_snear h hk
 have ca := e_after h hk
 have b1 := h.at_ hk
 have b2 := h.at_ hm
 have b3 := h.at_ hq
 have c1 := e_rcmp b1.1 h.p.1 (by omega)
 have c2 := e_rcmp b1.1 h.q.1 (by omega)
 have c3 := e_rcmp b3.2 b1.2 (by omega)
 have c4 := e_rcmp b2.2 b1.2 (by omega)
 have hp2 := s.p2_len k
 rw [s.p2_succ] at next
 have htip : s.sg2 k = if (!(s.level k) && (!(s.level (s.bf k)) && (s.near k && (!(lt0 (s.at_ k).1 s.P.1) && (!(gt0 (s.at_ k).1 s.Q.1) && (!(lt0 (s.at_ (s.bf k)).2 (s.at_ k).2) && !(lt0 (s.at_ (s.nx k)).2 (s.at_ k).2))))))) = true then [(((s.at_ k).1, s.P.2), ((s.at_ k).1, s.P.2))] else [] := rfl
 generalize hx1 : s.level k = x1 at lv htip
 generalize hx2 : s.level (s.bf k) = x2 at lw htip
 generalize hx3 : s.near k = x3 at nr htip
 generalize hu : s.at_ k = u at *
 generalize hv : s.at_ (s.nx k) = v at *
 generalize hz : s.at_ (s.bf k) = z at *
 let F0 : List F_ := [ye (t := decide ((k : Int) < ((s.m + 1 : Nat) : Int))) (decide_eq_true (by omega)), wq 85 ((k : Int) + ((s.m + 1 : Nat) : Int)) ((k + s.L.length : Nat) : Int) (by omega), wq 86 (((k + s.L.length : Nat) : Int) - 1) ((k + s.L.length - 1 : Nat) : Int) (by omega), rem_ (L := s.L) 88 (k + s.L.length - 1) s.m h.hm, cl lv]
 have skip : ∀ {G : Prop}, ((s.sg2 k = []) → G) → s.sg2 k = [] → G := fun f e => f e
 cases x1 with
 | true =>
  rw [show s.sg2 k = [] by rw [htip]; rfl, List.append_nil] at next
  exact GG.to mo_ [] [0, 1, 3, 4, 79, 80] [0] 1 (F0 ++ [yt, yt, yt, yt, yt, inc 177 k (by omega)]) next (by kernel_rfl)
 | false =>
  cases x2 with
  | true =>
   rw [show s.sg2 k = [] by rw [htip]; rfl, List.append_nil] at next
   exact GG.to mo_ [] [0, 1, 3, 4, 79, 80] [0] 1 (F0 ++ [nf, cl lw, yt, yt, yt, yt, inc 177 k (by omega)]) next (by kernel_rfl)
  | false =>
   cases x3 with
   | false =>
    rw [show s.sg2 k = [] by rw [htip]; rfl, List.append_nil] at next
    exact GG.to mo_ [] [0, 1, 3, 4, 79, 80] [0] 1 (F0 ++ [nf, cl lw, nf, cl nr, yt, yt, yt, inc 177 k (by omega)]) next (by kernel_rfl)
   | true =>
    cases h1 : lt0 u.1 s.P.1 with
    | true =>
     rw [show s.sg2 k = [] by rw [htip, h1]; rfl, List.append_nil] at next
     exact GG.to mo_ [] [0, 1, 3, 4, 79, 80] [0] 1 (F0 ++ [nf, cl lw, nf, cl nr, nf, .sel _ _ _ e1, cl c1, ye (t := lt0 u.1 s.P.1) h1, yt, inc 177 k (by omega)]) next (by kernel_rfl)
    | false =>
     let F1 : List F_ := F0 ++ [nf, cl lw, nf, cl nr, nf, .sel _ _ _ e1, cl c1, na (t := lt0 u.1 s.P.1) h1, .sel _ _ _ e1, cl c2]
     cases h2 : gt0 u.1 s.Q.1 with
     | true =>
      rw [show s.sg2 k = [] by rw [htip, h1, h2]; rfl, List.append_nil] at next
      exact GG.to mo_ [] [0, 1, 3, 4, 79, 80] [0] 1 (F1 ++ [ye (t := gt0 u.1 s.Q.1) h2, inc 177 k (by omega)]) next (by kernel_rfl)
     | false =>
      let F2 : List F_ := F1 ++ [na (t := gt0 u.1 s.Q.1) h2, .sel _ _ _ e3, .sel _ _ _ e1, cl c3]
      cases h3 : lt0 z.2 u.2 with
      | true =>
       rw [show s.sg2 k = [] by rw [htip, h1, h2, h3]; rfl, List.append_nil] at next
       exact GG.to mo_ [] [0, 1, 3, 4, 79, 80] [0] 1 (F2 ++ [ye (t := lt0 z.2 u.2) h3, yt, inc 177 k (by omega)]) next (by kernel_rfl)
      | false =>
       let F3 : List F_ := F2 ++ [na (t := lt0 z.2 u.2) h3, cl ca, .sel _ _ _ e2, .sel _ _ _ e1, cl c4]
       cases h4 : lt0 v.2 u.2 with
       | true =>
        rw [show s.sg2 k = [] by rw [htip, h1, h2, h3, h4]; rfl, List.append_nil] at next
        exact GG.to mo_ [] [0, 1, 3, 4, 79, 80] [0] 1 (F3 ++ [ye (t := lt0 v.2 u.2) h4, inc 177 k (by omega)]) next (by kernel_rfl)
       | false =>
        rw [show s.sg2 k = [((u.1, s.P.2), (u.1, s.P.2))] by rw [htip, h1, h2, h3, h4]; rfl] at next
        refine GG.to mo_ [.fz 10] [0, 1, 3, 4, 10, 79, 80] [0] 1 (F3 ++ [na (t := lt0 v.2 u.2) h4, .sel _ _ _ e1]) (td' := ryI fsg 19) (σ' := sg0 s l [(10, .ip (dV (u.1, s.P.2))), (79, ni ((s.m + 1 : Nat) : Int)), (80, ni (k : Int))]) ?_ (by kernel_rfl)
        refine GG.yieldD 4 [0, 1, 3, 4, 79, 80, 176] [0] [] [] [] (J := fun D W => J (s.p2 k, D) W) (JT := fun D W => J (s.p2 k ++ [((u.1, s.P.2), (u.1, s.P.2))], D) W) (JF := fun D W => Jx (s.p2 k ++ [((u.1, s.P.2), (u.1, s.P.2))], D) W) (vs := [.ag (sgV ((u.1, s.P.2), (u.1, s.P.2)))]) (l := l) (σT := sg0 s l [(79, ni ((s.m + 1 : Nat) : Int)), (80, ni (k : Int)), (176, bo false)]) (σF := sg0 s l [(79, ni ((s.m + 1 : Nat) : Int)), (80, ni (k : Int)), (176, bo true)])
         (fun nf u Wl D W1 q1 q2 q3 q4 => hY nf (s.p2 k) _ u Wl D W1 ⟨by omega, ⟨b1.1, h.p.2⟩, b1.1, h.p.2⟩ q1 q2 q3 q4) ?_ ?_ (by kernel_rfl)
        · exact GG.to mo_ [] [0, 1, 3, 4, 79, 80] [0] 1 [nf, inc 177 k (by omega)] next (by kernel_rfl)
        · refine GG.endR mo_ (fn_of hb).1 (by kernel_rfl) [yt] (by kernel_rfl) fun w0 B M w hC hbl => .inr ?_
          obtain ⟨D, hD⟩ := cd_end aJx hC hbl
          exact ⟨_, D, trivial, hD⟩
end
theorem it_segs (h : s.Ok b) : IterD PP 131 [.ip s.v] (fun x : Vc × Vc => [.ag (sgV x)]) (fun xs => xs = s.segs) (fun _ => True) (Nx s.L.length b) := by
 have hb : E.okB PP 131 = true := by kernel_rfl
 have hn := h.n
 have hmm := h.hm
 have hl : (s.L.map dV).length = s.L.length := List.length_map ..
 refine IterD.of (fn := fsg) (fn_of hb).1 (by kernel_rfl) (okF_of hb) fun lb l B0 J Jx hr aJ aJx hY => ?_
 have loop2 : GS lb J Jx s.segs (s.p2 0) (lp fsg 1) (sg0 s l [(79, ni ((s.m + 1 : Nat) : Int)), (80, ni ((0 : Nat) : Int))]) := by
  refine GG.loop (fun (k : Nat) => sg0 s l [(79, ni ((s.m + 1 : Nat) : Int)), (80, ni (k : Int))]) (fun k => k ≤ s.L.length) (fun k => s.L.length - k) (Ct := fun k => CD fun D W => J (s.p2 k, D) W) ?_ 0 (Nat.zero_le _)
  intro k hk ih
  by_cases g : k < s.L.length
  · exact sg_2 h aJx hY g (ih (k + 1) g (by omega))
  · have e : k = s.L.length := by omega
    subst e
    refine GG.endR mo_ (fn_of hb).1 (by kernel_rfl) [na (t := decide ((s.L.length : Int) < ((s.m + 1 : Nat) : Int))) (decide_eq_false (by omega))] (by kernel_rfl) fun w0 B M w hC hbl => .inl ?_
    obtain ⟨D, hD⟩ := cd_end aJ hC hbl
    exact ⟨_, D, rfl, hD⟩
 rw [s.p2_0] at loop2
 refine GG.to mo_ [.fz 4] [0, 1, 3, 4, 18, 19] [0] 1 [.eqv 13 (ni ((s.L.map dV).length : Int)) (ni ((s.m + 1 : Nat) : Int)) (by rw [hl, h.hm])] (td' := lp fsg 0) (σ' := sg0 s l [(18, ni ((s.m + 1 : Nat) : Int)), (19, ni ((0 : Nat) : Int))]) ?_ (by kernel_rfl)
 refine GG.loop (fun (k : Nat) => sg0 s l [(18, ni ((s.m + 1 : Nat) : Int)), (19, ni (k : Int))]) (fun k => k ≤ s.L.length) (fun k => s.L.length - k) (Ct := fun k => CD fun D W => J (s.p1 k, D) W) ?_ 0 (Nat.zero_le _)
 intro k hk ih
 by_cases g : k < s.L.length
 · exact sg_1 h aJx hY g (ih (k + 1) g (by omega))
 · have e : k = s.L.length := by omega
   subst e
   exact GG.to mo_ [] [0, 1, 3, 4, 79, 80] [0] 1 [na (t := decide ((s.L.length : Int) < ((s.m + 1 : Nat) : Int))) (decide_eq_false (by omega))] loop2 (by kernel_rfl)
end
end Go.Proofs.YtbaggkbleehegaaGreat.E.Ct
namespace Go.Proofs.YtbaggkbleehegaaGreat.E.Ct
open Go.RowKit
set_option linter.unusedVariables false
set_option linter.unusedSimpArgs false
section
variable {s : Su} {b k : Nat}
def sgR (l : List (Vc × Vc)) : List (List V) := l.map sgV
theorem sgR_len (l : List (Vc × Vc)) : (sgR l).length = l.length := List.length_map ..
theorem sgR_app (l m : List (Vc × Vc)) : sgR l ++ sgR m = sgR (l ++ m) := by unfold sgR; rw [List.map_append]
noncomputable abbrev fap : Func := fnOf PP 130
noncomputable def apS (s : Su) (m1 m2 : List (Nat × V)) : List V := (at_ fap ([(2, .lp 0 0)] ++ (m1 ++ ((6, .cl 131 [.ip s.v]) :: m2))) []).t
def apH (l : List (Vc × Vc)) : List HO := [.bx 52 [.ow 1], .rw 56 16 (sgR l)]
theorem three_of {α : Type} {xs : List α} (h : xs.length = 3) : ∃ x y z, xs = [x, y, z] := by
 match xs, h with
 | [x, y, z], _ => exact ⟨x, y, z, rfl⟩
def mkC2 (ts : Array TypeId) (xs : List Operand) : Op := .call ⟨.value (xs.getD 0 (.tmp 0)), #[xs.getD 1 (.tmp 0), xs.getD 2 (.tmp 0)], ts⟩
/-- A call to which a nil slice is given; what it returns is a new row. -/
theorem x_cn {P : Program} {f : FuncId} {ts : Array TypeId} {T z b : Nat} {l : List (List V)} {y : V} (hp : Pure P f [.nl, y] (.o T z l)) (hy : refs (fun _ => false) y = true) : Ext P (mkC2 ts) [.cl f [], .k (.slice none 0 0), y] [] [(b, .rw T z l)] (.ow b) := by
 intro B M h m w a o xs ho K hl hr hrd hd
 obtain ⟨x0, x1, x2, rfl⟩ := three_of hl
 have r0 := hr 0 x0 _ rfl rfl
 have r1 := Rep.k_inv (hr 1 x1 _ rfl rfl)
 have r2 := hr 2 x2 _ rfl rfl
 simp only [mkC2, List.getD_cons_zero, List.getD_cons_succ] at ho
 have hce : a.eval x0 = .func (.func f) #[] #[] := by
  generalize a.eval x0 = u at r0
  cases r0 with
  | cl _ _ cs _ h1 h2 =>
   have : cs = #[] := Array.eq_empty_of_size_eq_zero (by simpa using h1)
   rw [this]
 have hargs : Reps w (Av M h m) no #[a.eval x1, a.eval x2] [.nl, y] := by
  refine ⟨rfl, fun j x hx => ?_, K.gl.mo (m := m) (m' := m) Mo.refl⟩
  match j with
  | 0 =>
   simp only [List.getElem?_cons_zero, Option.some.injEq] at hx
   subst hx
   show Rep _ _ _ (a.eval x1) _
   rw [r1]
   exact .nl _
  | 1 =>
   simp only [List.getElem?_cons_succ, List.getElem?_cons_zero, Option.some.injEq] at hx
   subst hx
   exact refs_mo (p := fun _ => false) hy (fun b hb => by cases hb) ⟨Nat.le_refl _, fun _ _ _ => rfl, fun g e => .inl e, fun _ _ e => e⟩ r2
  | j + 2 => simp at hx
 have hcall := hp.2 w (Av M h m) _ (fun g hg => K.av_lt hg) hargs
 obtain ⟨hd1, hd2⟩ := hd b (by simp) (by simp)
 refine .inr (.inr ⟨f, #[a.eval x1, a.eval x2], ?_, hcall.mono fun e w' he => ?_⟩)
 · have := hp.1 #[a.eval x1, a.eval x2] w
   simp [execOp, ho, resolve, hce, Deferred.ofValue, invoke, this]
 · obtain ⟨u, rfl, h1, h2⟩ := he
   refine ⟨u, rfl, ?_⟩
   obtain ⟨q1, xs, q2, q3, q4⟩ := h1
   have hu : ∀ g, E.blk u = some g → w.heap.size ≤ g := fun g hg => by
    rcases q2.2 with ⟨rfl, _⟩ | ⟨g', cap, cur, rfl, hB, _⟩
    · cases hg
    · simp only [E.blk, Option.some.injEq] at hg; subst hg; exact Nat.le_of_not_lt hB
   have hown : OwR w' B T z u l.length xs := ⟨q2.1, by
    rcases q2.2 with h5 | ⟨g', cap, cur, h5, hB, r⟩
    · exact .inl h5
    · exact .inr ⟨g', cap, cur, h5, fun e => hB (K.bs _ e), r⟩⟩
   refine ⟨upd m b (some u), K.newAt hd1 hd2 hu h2 q1 hown q3 (fun j x hx => q4 j x hx), ?_, .new hd1 hd2 hu h2, Bl.of h2 K.bs, fun b' hb => ?_⟩
   · rcases q2.2 with ⟨rfl, _⟩ | ⟨g', cap, cur, rfl, _⟩
     · exact .ow _ _ _ _ _ upd_eq
     · exact .ow _ _ _ _ _ upd_eq
   · by_cases e : b' = b
     · subst e; exact .inr (by simp)
     · rw [upd_ne e] at hb; exact .inl hb
theorem e_apseq (h : s.Ok b) : Pure PP 130 [.nl, .cl 131 [.ip s.v]] (.o 56 16 (sgR s.segs)) := by
 have hn := h.n
 refine pf (by kernel_rfl) (.to mo_ [.oc 0 0 (.rw 56 16 [])] [2, 6] [0, 1] 2 [] (td' := rfI fap) (σ' := ⟨apS s [] [], apH []⟩) ?_ (by kernel_rfl))
 refine Gd.rangeD mo_ (fn_of (f := 130) (by kernel_rfl)).1 (k := (rf fap).2.2.2.2) (σ := ⟨apS s [] [], _⟩) (gf := 131) (caps := [.ip s.v]) (by kernel_rfl) (it_segs h) (fun x => by kernel_rfl) (fun b => Nat.beq b 1) (by kernel_rfl)
  (fun pre => apH pre) rfl (fun pre => ⟨rfl, fun b => ?_⟩) (fun x => apS s [(5, .ip (sgV x))] [(7, .ag (sgV x))]) (fun pre x => .of [.fz 5] [2, 5, 6, 7] [0, 1] [] (by kernel_rfl)) (fun _ => True) trivial (fun pre x hlt _ => ⟨trivial, ?_⟩) (fun xs hS _ => ?_)
 · match b with
   | 0 | 1 => rfl
   | b + 2 => rfl
 · exact RnM.ofH [.mv 1 3] [] [0, 1] [.app (sgR pre) (sgR [x]) (sgR (pre ++ [x])) 20000 (sgR_app _ _) Nat.zero_lt_one (by rw [sgR_len, List.length_append]; have := hlt.1; simp; omega)] (by kernel_rfl)
 · subst hS
   exact fi [] (by kernel_rfl) (by kernel_rfl)
theorem e_collect (h : s.Ok b) : Pure PP 66 [.cl 131 [.ip s.v]] (.o 56 16 (sgR s.segs)) := tr [.ext (some 4) (mkC2 #[52, 116]) _ [] _ _ (x_cn (b := 0) (e_apseq h) (by kernel_rfl))] (by kernel_rfl)
theorem e_on (h : s.Ok b) : Pure PP 15 [dL s.L, .ag (dV s.P ++ dV s.Q), .ag (dR s.e)] (.o 56 16 (sgR s.segs)) := tr [cl (e_segs s), cl (e_collect h)] (by kernel_rfl)
end
end Go.Proofs.YtbaggkbleehegaaGreat.E.Ct
namespace Go.Proofs.YtbaggkbleehegaaGreat.E.Ct
open Go.RowKit
set_option linter.unusedVariables false
set_option linter.unusedSimpArgs false
section
variable {s : Su} {b k : Nat}
def ge0 (a b : Rat) : Bool := decide (cmpQ a b ≥ 0)
theorem le_gt (a b : Rat) : le0 a b = !(gt0 a b) := by
 unfold le0 gt0
 by_cases h : cmpQ a b > 0
 · rw [decide_eq_true h, decide_eq_false (by omega)]; rfl
 · rw [decide_eq_false h, decide_eq_true (by omega)]; rfl
/-- Between the ends; a lowest corner. -/
def Su.btw (s : Su) (k : Nat) : Bool := le0 s.P.1 (s.at_ k).1 && le0 (s.at_ k).1 s.Q.1
def Su.low (s : Su) (k : Nat) : Bool := ge0 (s.at_ (s.bf k)).2 (s.at_ k).2 && ge0 (s.at_ (s.nx k)).2 (s.at_ k).2
end
end Go.Proofs.YtbaggkbleehegaaGreat.E.Ct
namespace Go.Proofs.YtbaggkbleehegaaGreat.E.Ct
open Go.RowKit
set_option linter.unusedVariables false
set_option linter.unusedSimpArgs false
structure Pi where
 id : Int
 home : Int
 rim : List (Int × Int)
 worn : List Bool
 marks : List Int
 tol : Rat
 light : Rat
 heavy : Rat
 str : Rat
 rough : Rat
def ptR (l : List (Int × Int)) : List (List V) := l.map fun p => [ni p.1, ni p.2]
def wnR (l : List Bool) : List (List V) := l.map fun p => [bo p]
def Pi.v (p : Pi) : List V := [ni p.id, ni p.home, .sl (ptR p.rim), .sl (wnR p.worn), zl p.marks] ++ (dR p.tol ++ (dR p.light ++ (dR p.heavy ++ (dR p.str ++ dR p.rough))))
def qv (x : Int × Int) : Vc := (Rat.divInt x.1 1, Rat.divInt x.2 1)
def Pi.rimV (p : Pi) : List Vc := p.rim.map qv
structure Pi.Ok (p : Pi) (b : Nat) : Prop where
 r : ∀ x ∈ p.rim, W.Is64 x.1 ∧ W.Is64 x.2
 n : 0 < p.rim.length ∧ p.rim.length ≤ 1000
 tol : Bq b p.tol
 light : Bq b p.light
 heavy : Bq b p.heavy
 str : Bq b p.str
 rough : Bq b p.rough
section
variable {p : Pi} {b k : Nat} {x y : Int} {r t : Rat}
theorem get_of {α : Type} {l : List α} {i : Nat} (h : i < l.length) : ∃ x, l[i]? = some x ∧ x ∈ l := ⟨l[i], List.getElem?_eq_getElem h, List.getElem_mem h⟩
theorem is1_ : W.Is64 1 := ⟨by decide, by decide⟩
theorem e_pof (hx : W.Is64 x) (hy : W.Is64 y) : Pure PP 64 [ni x, ni y] (.ag (dV (qv (x, y)))) := tr [cl (e_rof hx is1_), cl (e_rof hy is1_)] (by kernel_rfl)
theorem pt_at {q : Int × Int} {l : List (Int × Int)} (h : l[k]? = some q) : (ptR l)[k]? = some [ni q.1, ni q.2] := by unfold ptR; rw [List.getElem?_map, h]; rfl
theorem rim_app {q : Int × Int} (h : p.rim[k]? = some q) : (p.rimV.take k).map dV ++ [qv q].map dV = (p.rimV.take (k + 1)).map dV := by
 rw [List.take_add_one]
 unfold Pi.rimV
 rw [List.getElem?_map, h, List.map_append]
 rfl
noncomputable abbrev frm : Func := fnOf PP 49
theorem e_rim (h : p.Ok b) : Pure PP 49 [.ag p.v] (.o 43 8 (p.rimV.map dV)) := by
 have hn := h.n
 have hl : (ptR p.rim).length = p.rim.length := List.length_map ..
 have hv : p.rimV.length = p.rim.length := List.length_map ..
 let X : Nat → St := fun k => at_ frm [(3, .ow 1), (7, .sl (ptR p.rim)), (8, ni (p.rim.length : Int)), (9, ni (k : Int))] [.dead, .rw 43 8 ((p.rimV.take k).map dV)]
 refine pf (by kernel_rfl) (.to mo_ [.ow 3 (.rw 43 8 [])] [3, 7, 8, 9] [1] 2 [.eqv 8 (ni ((ptR p.rim).length : Int)) (ni (p.rim.length : Int)) (by rw [hl])] (td' := lp frm 0) (σ' := X 0) ?_ (by kernel_rfl))
 refine Gd.loop X (fun k => k ≤ p.rim.length) (fun k => p.rim.length - k) ?_ 0 (Nat.zero_le _)
 intro k hk ih
 by_cases g : k < p.rim.length
 · obtain ⟨q, hq, hm⟩ := get_of g
   obtain ⟨h1, h2⟩ := h.r q hm
   exact .to mo_ [.mv 1 4] [3, 7, 8, 9] [1] 2 [ye (t := decide ((k : Int) < (p.rim.length : Int))) (decide_eq_true (by omega)), .sel _ _ _ (pt_at hq), cl (e_pof h1 h2), .app ((p.rimV.take k).map dV) ([qv q].map dV) ((p.rimV.take (k + 1)).map dV) 2000 (rim_app hq) Nat.zero_lt_one (by rw [List.length_map, List.length_take]; omega), inc 21 k (by omega)] (ih (k + 1) g (by omega)) (by kernel_rfl)
 · have e : k = p.rim.length := by omega
   subst e
   have hX : X p.rim.length = at_ frm [(3, .ow 1), (7, .sl (ptR p.rim)), (8, ni (p.rim.length : Int)), (9, ni (p.rim.length : Int))] [.dead, .rw 43 8 (p.rimV.map dV)] := by simp only [X]; rw [← hv, List.take_length]
   rw [hX]
   exact fi [na (t := decide ((p.rim.length : Int) < (p.rim.length : Int))) (decide_eq_false (by omega))] (by kernel_rfl) (by kernel_rfl)
def lsr (a b : Rat) : Rat := if gt0 a b = true then b else a
theorem e_lsr (h1 : Bq b r) (h2 : Bq b t) (hb : b ≤ 100000000) : Pure PP 76 [.ag (dR r), .ag (dR t)] (.ag (dR (lsr r t))) := by
 have c := e_rcmp h1 h2 (by omega)
 unfold lsr
 cases g : gt0 r t with
 | true => exact tr [cl c, ye (t := gt0 r t) g] (by kernel_rfl)
 | false => exact tr [cl c, na (t := gt0 r t) g] (by kernel_rfl)
end
end Go.Proofs.YtbaggkbleehegaaGreat.E.Ct
namespace Go.Proofs.YtbaggkbleehegaaGreat.E.Ct
open Go.RowKit
set_option linter.unusedVariables false
set_option linter.unusedSimpArgs false
/-- A bit of a set. -/
def bitV (s : Int) (k : Nat) : Int := IntKind.i64.wrap ((BitVec.ofInt IntKind.i64.bits (s.fdiv (2 ^ min (k : Int).toNat IntKind.i64.bits)) &&& BitVec.ofInt IntKind.i64.bits 1).toNat : Int)
theorem bit_01 (s : Int) (k : Nat) : bitV s k = 0 ∨ bitV s k = 1 := by
 unfold bitV
 generalize BitVec.ofInt IntKind.i64.bits (s.fdiv (2 ^ min (k : Int).toNat IntKind.i64.bits)) = x
 have h : (x &&& BitVec.ofInt IntKind.i64.bits 1).toNat = x.toNat % 2 := by
  rw [BitVec.toNat_and]
  show x.toNat &&& 1 = _
  exact Nat.and_one_is_mod _
 rw [h]
 have : x.toNat % 2 = 0 ∨ x.toNat % 2 = 1 := by omega
 rcases this with h | h <;> rw [h]
 · left; decide
 · right; decide
def inB (s : Int) (k : Nat) : Bool := bitV s k == 1
theorem bit_0 (s : Int) (k : Nat) : (bitV s k == 0) = !(inB s k) := by
 unfold inB
 rcases bit_01 s k with h | h <;> rw [h] <;> rfl
section
variable {p : Pi} {pl : Pl} {b k j : Nat} {u : Vc} {st : Int}
/-- The rim of a piece as it is placed. -/
def plRim (p : Pi) (pl : Pl) : List Vc := p.rimV.map (vput pl)
structure Pi.Good (p : Pi) (pl : Pl) (b : Nat) : Prop where
 ok : p.Ok b
 r : ∀ a ∈ p.rimV, Bv b a
 t : Bv b pl.1
 a : Bv b pl.2
 n : p.rim.length ≤ 100
 k : b ≤ 10000
theorem Pi.Good.bits (h : p.Good pl b) : ∀ a ∈ plRim p pl, Bv (20 * b + 10) a := fun a ha => (map_put_bits h.t h.a h.r a ha).mono (by omega)
theorem plRim_len (p : Pi) (pl : Pl) : (plRim p pl).length = p.rim.length := by unfold plRim Pi.rimV; simp
end
end Go.Proofs.YtbaggkbleehegaaGreat.E.Ct
namespace Go.Proofs.YtbaggkbleehegaaGreat.E.Ct
open Go.RowKit
set_option linter.unusedVariables false
set_option linter.unusedSimpArgs false
structure To where
 a : Int
 b : Int
 p : Vc
 q : Vc
 n : Vc
 r : Rat
def To.v (t : To) : List V := [ni t.a, ni t.b] ++ (dV t.p ++ (dV t.q ++ (dV t.n ++ dR t.r)))
def toR (l : List To) : List (List V) := l.map To.v
theorem toR_len (l : List To) : (toR l).length = l.length := List.length_map ..
theorem toR_app (l m : List To) : toR l ++ toR m = toR (l ++ m) := by unfold toR; rw [List.map_append]
def one_ : Rat := Rat.divInt 1 1
/-- How wide a segment counts. -/
def wide (x : Vc × Vc) : Rat := if lt0 (x.2.1 - x.1.1) one_ = true then one_ else x.2.1 - x.1.1
def prT (k : Nat) (r : Rat) (x : Vc × Vc) : To := ⟨k, -1, x.1, x.2, (0, wide x), r⟩
/-- A touch, as it is built. -/
def prV (k : Nat) (r : Rat) (x : Vc × Vc) : List V := [ni (k : Int), ni (-1)] ++ (dV x.1 ++ (dV x.2 ++ ([bo false, .sl [], bo false, .sl []] ++ (dR (wide x) ++ dR r))))
theorem prV_eq (k : Nat) (r : Rat) (x : Vc × Vc) : prV k r x = (prT k r x).v := by
 show _ = [ni (k : Int), ni (-1)] ++ (dV x.1 ++ (dV x.2 ++ ((dR 0 ++ dR (wide x)) ++ dR r)))
 unfold prV
 rw [dR_0]
 rfl
structure Sc where
 L : List Pi
 A : List Pl
def Sc.pi (s : Sc) (k : Nat) : Pi := s.L.getD k ⟨0, 0, [], [], [], 0, 0, 0, 0, 0⟩
def Sc.pl (s : Sc) (k : Nat) : Pl := s.A.getD k ((0, 0), (0, 0))
structure Sc.Ok (s : Sc) (b : Nat) : Prop where
 g : ∀ k, k < s.L.length → (s.pi k).Good (s.pl k) b
 n : s.L.length ≤ s.A.length ∧ s.L.length ≤ 100
 k : b ≤ 10000
def piR (l : List Pi) : List (List V) := l.map Pi.v
def plR (l : List Pl) : List (List V) := l.map dPl
/-- The polygon of a piece over a prop. -/
def Sc.su (s : Sc) (P Q : Vc) (k : Nat) : Su := ⟨plRim (s.pi k) (s.pl k), P, Q, (s.pi k).tol⟩
def Sc.pr1 (s : Sc) (st : Int) (P Q : Vc) (k : Nat) : List To := if inB st k = true then (s.su P Q k).segs.map (prT k (s.pi k).rough) else []
def Sc.prs (s : Sc) (st : Int) (P Q : Vc) (k : Nat) : List To := (List.range k).flatMap (s.pr1 st P Q)
section
variable {s : Sc} {b k : Nat} {st : Int} {P Q : Vc}
theorem Sc.prs_succ (s : Sc) (st : Int) (P Q : Vc) (k : Nat) : s.prs st P Q (k + 1) = s.prs st P Q k ++ s.pr1 st P Q k := by unfold Sc.prs; rw [List.range_succ, List.flatMap_append]; simp
theorem Sc.suOk (h : s.Ok b) (hP : Bv b P) (hQ : Bv b Q) (hk : k < s.L.length) : (s.su P Q k).Ok (20 * b + 10) := by
 have g := h.g k hk
 have hkb := h.k
 refine ⟨g.bits, hP.mono (by omega), hQ.mono (by omega), g.ok.tol.mono (by omega), ?_, by omega⟩
 show 0 < (plRim _ _).length ∧ (plRim _ _).length ≤ 1000
 rw [plRim_len]
 exact g.ok.n
theorem Sc.len1 (h : s.Ok b) (hk : k < s.L.length) : (s.su P Q k).segs.length ≤ 200 := by
 have g := h.g k hk
 have h1 := (s.su P Q k).p2_len (s.su P Q k).L.length
 have h2 : (s.su P Q k).L.length = (s.pi k).rim.length := plRim_len _ _
 have h3 := g.n
 show ((s.su P Q k).p2 _).length ≤ 200
 omega
theorem Sc.prs_len (h : s.Ok b) : ∀ k, k ≤ s.L.length → (s.prs st P Q k).length ≤ 200 * k
 | 0, _ => by simp [Sc.prs]
 | k + 1, hk => by
  have h1 := Sc.prs_len h k (by omega)
  have h2 := Sc.len1 (P := P) (Q := Q) h (show k < s.L.length by omega)
  rw [Sc.prs_succ, List.length_append]
  have : (s.pr1 st P Q k).length ≤ 200 := by unfold Sc.pr1; split <;> simp; exact h2
  omega
theorem pi_at (hk : k < s.L.length) : (piR s.L)[k]? = some (s.pi k).v := by unfold piR Sc.pi; rw [List.getElem?_map, List.getD_eq_getElem?_getD, List.getElem?_eq_getElem hk]; rfl
theorem pl_at (hk : k < s.A.length) : (plR s.A)[k]? = some (dPl (s.pl k)) := by unfold plR Sc.pl; rw [List.getElem?_map, List.getD_eq_getElem?_getD, List.getElem?_eq_getElem hk]; rfl
noncomputable abbrev fpp : Func := fnOf PP 25
noncomputable def ppS (s : Sc) (st : Int) (P Q : Vc) (k : Nat) (m1 m2 : List (Nat × V)) : List V := (at_ fpp ([(1, .sl (plR s.A)), (2, ni st), (7, .ip (dV P ++ dV Q)), (9, .lp 1 0)] ++ (m1 ++ ([(15, .sl (piR s.L)), (16, ni (s.L.length : Int)), (17, ni (k : Int))] ++ m2))) []).t
def ppH (l : List To) : List HO := [.dead, .bx 64 [.ow 2], .rw 80 30 (toR l)]
abbrev GP (s : Sc) (st : Int) (P Q : Vc) (td : List Item) (σ : St) : Prop := Gd PP 25 (.o 80 30 (toR (s.prs st P Q s.L.length))) td σ
theorem pp_1 (h : s.Ok b) (hP : Bv b P) (hQ : Bv b Q) (hk : k < s.L.length) (next : GP s st P Q (lp fpp 0) ⟨ppS s st P Q (k + 1) [] [], ppH (s.prs st P Q (k + 1))⟩) : GP s st P Q (lp fpp 0) ⟨ppS s st P Q k [] [], ppH (s.prs st P Q k)⟩ := by
 have hkb := h.k
 have hn := h.n
 have g := h.g k hk
 have so := Sc.suOk h hP hQ hk
 have e1 := pi_at hk
 have e2 := pl_at (s := s) (k := k) (by omega)
 have hpl := Sc.prs_len (st := st) (P := P) (Q := Q) h k (by omega)
 have k0 := bit_0 st k
 have hsu : (s.su P Q k).v = dL (plRim (s.pi k) (s.pl k)) :: (dV P ++ (dV Q ++ dR (s.pi k).tol)) := rfl
 have csg := e_segs (s.su P Q k)
 have its := it_segs so
 have cr := e_rim g.ok
 have cm := e_move g.t g.a g.r (by have := g.n; unfold Pi.rimV; rw [List.length_map]; omega) (by omega)
 have hsl : (s.su P Q k).L.length ≤ 100 := by show (plRim _ _).length ≤ 100; rw [plRim_len]; exact g.n
 rw [s.prs_succ] at next
 unfold Sc.pr1 at next
 generalize hsuE : s.su P Q k = su at *
 rw [hsu] at csg its
 cases hin : inB st k with
 | false =>
  rw [hin, if_neg (by simp), List.append_nil] at next
  rw [hin] at k0
  exact .to mo_ [] [1, 2, 7, 9, 15, 16, 17] [1, 2] 3 [ye (t := decide ((k : Int) < (s.L.length : Int))) (decide_eq_true (by omega)), .sel _ _ _ e1, ye (t := bitV st k == 0) k0, inc 66 k (by omega)] next (by kernel_rfl)
 | true =>
  rw [hin, if_pos rfl] at next
  rw [hin] at k0
  let sv : List V := dL (plRim (s.pi k) (s.pl k)) :: (dV P ++ (dV Q ++ dR (s.pi k).tol))
  refine .to mo_ [.fz 10, .fz 11, .fz 38] [1, 2, 7, 9, 10, 11, 15, 16, 17, 38] [1, 2] 3 [ye (t := decide ((k : Int) < (s.L.length : Int))) (decide_eq_true (by omega)), .sel _ _ _ e1, na (t := bitV st k == 0) k0, .sel _ _ _ e2, cl cr, cl cm, cl csg] (td' := rfI fpp) (σ' := ⟨ppS s st P Q k [(10, .ip [ni (k : Int)]), (11, .ip (s.pi k).v)] [(38, .cl 131 [.ip sv])], ppH (s.prs st P Q k)⟩) ?_ (by kernel_rfl)
  refine Gd.rangeD mo_ (fn_of (f := 25) (by kernel_rfl)).1 (k := (rf fpp).2.2.2.2) (σ := ⟨ppS s st P Q k [(10, .ip [ni (k : Int)]), (11, .ip (s.pi k).v)] [(38, .cl 131 [.ip sv])], _⟩) (gf := 131) (caps := [.ip sv]) (by kernel_rfl) its (fun x => by kernel_rfl) (fun b => Nat.beq b 2) (by kernel_rfl)
   (fun pre => ppH (s.prs st P Q k ++ pre.map (prT k (s.pi k).rough))) (by show ppH (_ ++ []) = _; rw [List.append_nil]) (fun pre => ⟨rfl, fun b => ?_⟩) (fun x => ppS s st P Q k [(10, .ip [ni (k : Int)]), (11, .ip (s.pi k).v), (12, .ip (sgV x))] [(38, .cl 131 [.ip sv]), (39, .ag (sgV x))]) (fun pre x => .of [.fz 12] [1, 2, 7, 9, 10, 11, 12, 15, 16, 17, 38, 39] [1, 2] [] (by kernel_rfl)) (fun _ => True) trivial (fun pre x hlt _ => ⟨trivial, ?_⟩) (fun xs hS _ => ?_)
  · match b with
    | 0 | 1 | 2 => rfl
    | b + 3 => rfl
  · obtain ⟨hl, bx1, bx2⟩ := hlt
    have hl2 : pre.length < 200 := by omega
    have c1 := e_rsub bx2.1 bx1.1 (by omega)
    have c2 := e_rof (x := 1) (y := 1) is1_ is1_
    have c3 := e_rcmp (bx2.1.sub bx1.1) (Bq.divInt (k := 1) (p := 1) (q := 1) (by unfold I.Bd; decide) (by unfold I.Bd; decide) (by decide)) (by omega)
    have hap : toR (s.prs st P Q k ++ pre.map (prT k (s.pi k).rough)) ++ [prV k (s.pi k).rough x] = toR (s.prs st P Q k ++ (pre ++ [x]).map (prT k (s.pi k).rough)) := by
     rw [List.map_append, ← List.append_assoc, prV_eq]
     exact toR_app (s.prs st P Q k ++ pre.map (prT k (s.pi k).rough)) [prT k (s.pi k).rough x]
    have hle : (toR (s.prs st P Q k ++ (pre ++ [x]).map (prT k (s.pi k).rough))).length ≤ 1000000 := by rw [toR_len]; simp; omega
    unfold prV wide at hap
    generalize (s.pi k).rough = rg at *
    cases hw : lt0 (x.2.1 - x.1.1) one_ with
    | true =>
     rw [hw, if_pos rfl] at hap
     exact RnM.ofH [.mv 2 6] [] [1, 2] [cl c1, cl c2, cl c3, ye (t := lt0 (x.2.1 - x.1.1) one_) hw, .app _ _ _ 1000000 hap Nat.zero_lt_one hle] (by kernel_rfl)
    | false =>
     rw [hw, if_neg (by simp)] at hap
     exact RnM.ofH [.mv 2 6] [] [1, 2] [cl c1, cl c2, cl c3, na (t := lt0 (x.2.1 - x.1.1) one_) hw, .app _ _ _ 1000000 hap Nat.zero_lt_one hle] (by kernel_rfl)
  · subst hS
    exact .to mo_ [] [1, 2, 7, 9, 15, 16, 17] [1, 2] 3 [inc 66 k (by omega)] next (by kernel_rfl)
theorem e_props (h : s.Ok b) (hP : Bv b P) (hQ : Bv b Q) : Pure PP 25 [.sl (piR s.L), .sl (plR s.A), ni st, .ag (dV P ++ dV Q)] (.o 80 30 (toR (s.prs st P Q s.L.length))) := by
 have hn := h.n
 have hl : (piR s.L).length = s.L.length := List.length_map ..
 refine pf (by kernel_rfl) (.to mo_ [.oc 1 0 (.rw 80 30 []), .fz 7] [1, 2, 7, 9, 15, 16, 17] [1, 2] 3 [.eqv 16 (ni ((piR s.L).length : Int)) (ni (s.L.length : Int)) (by rw [hl])] (td' := lp fpp 0) (σ' := ⟨ppS s st P Q 0 [] [], ppH (s.prs st P Q 0)⟩) ?_ (by kernel_rfl))
 refine Gd.loop (fun (k : Nat) => (⟨ppS s st P Q k [] [], ppH (s.prs st P Q k)⟩ : St)) (fun k => k ≤ s.L.length) (fun k => s.L.length - k) ?_ 0 (Nat.zero_le _)
 intro k hk ih
 by_cases g : k < s.L.length
 · exact pp_1 h hP hQ g (ih (k + 1) g (by omega))
 · have e : k = s.L.length := by omega
   subst e
   exact fi [na (t := decide ((s.L.length : Int) < (s.L.length : Int))) (decide_eq_false (by omega))] (by kernel_rfl) (by kernel_rfl)
end
end Go.Proofs.YtbaggkbleehegaaGreat.E.Ct
namespace Go.Proofs.YtbaggkbleehegaaGreat.E.Ct
open Go.RowKit
set_option linter.unusedVariables false
set_option linter.unusedSimpArgs false
section
variable {s : Sc} {b k : Nat} {st : Int} {P Q : Vc}
noncomputable abbrev fp6 : Func := fnOf PP 26
noncomputable def p6 (s : Sc) (st : Int) (P Q : Vc) (k : Nat) (l : List To) (m : List (Nat × V)) : St := at_ fp6 ([(0, .sl (piR s.L)), (1, .sl (plR s.A)), (2, ni st), (7, .ip (dV P ++ dV Q)), (9, .ow 1), (10, ni (k : Int))] ++ m) [.dead, .rw 80 30 (toR l)]
end
end Go.Proofs.YtbaggkbleehegaaGreat.E.Ct
namespace Go.Proofs.YtbaggkbleehegaaGreat.E.Ct
open Go.RowKit
set_option linter.unusedVariables false
set_option linter.unusedSimpArgs false
section
variable {l : List To} {i : Nat} {t : To}
theorem vsame (v : Vc) : Pure PP 18 [.ag (dV v), .ag (dV v)] (bo true) := by
 have h := e_vsame5 v v
 rwa [decide_eq_true rfl] at h
theorem rsame (r : Rat) : Pure PP 72 [.ag (dR r), .ag (dR r)] (bo true) := by
 have h := e_same4 r r
 rwa [decide_eq_true rfl] at h
theorem e_stouch (t : To) : Pure PP 37 [.ag t.v, .ag t.v] (bo true) :=
 tr [ye (t := t.a == t.a) (by simp), ye (t := t.b == t.b) (by simp), cl (vsame t.p), yt, cl (vsame t.q), yt, cl (vsame t.n), yt, cl (rsame t.r)] (by kernel_rfl)
theorem to_at (h : l[i]? = some t) : (toR l)[i]? = some t.v := by unfold toR; rw [List.getElem?_map, h]; rfl
noncomputable abbrev fst_ : Func := fnOf PP 22
theorem e_stouches (l : List To) (hn : l.length ≤ 1000000) : Pure PP 22 [.sl (toR l), .sl (toR l)] (bo true) := by
 have hl := toR_len l
 let X : Nat → St := fun i => at_ fst_ [(0, .sl (toR l)), (1, .sl (toR l)), (5, ni (i : Int))] []
 refine pf (by kernel_rfl) (.to mo_ [] [0, 1, 5] [] 0 [na (t := ((toR l).length : Int) != ((toR l).length : Int)) (by simp)] (td' := lp fst_ 0) (σ' := X 0) ?_ (by kernel_rfl))
 refine Gd.loop X (fun i => i ≤ l.length) (fun i => l.length - i) ?_ 0 (Nat.zero_le _)
 intro i hi ih
 by_cases g : i < l.length
 · obtain ⟨t, ht, _⟩ := get_of g
   have et := to_at ht
   exact .to mo_ [] [0, 1, 5] [] 0 [ye (t := decide ((i : Int) < ((toR l).length : Int))) (decide_eq_true (by omega)), .sel _ _ _ et, .sel _ _ _ et, cl (e_stouch t), nf, inc 16 i (by omega)] (ih (i + 1) g (by omega)) (by kernel_rfl)
 · exact fi [na (t := decide ((i : Int) < ((toR l).length : Int))) (decide_eq_false (by omega))] (by kernel_rfl) (by kernel_rfl)
end
end Go.Proofs.YtbaggkbleehegaaGreat.E.Ct
