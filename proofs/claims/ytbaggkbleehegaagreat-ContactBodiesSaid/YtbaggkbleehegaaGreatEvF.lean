/-
 CONTACT: pieces, their rims, lesser numbers, by the engine.
-/
import Derived.Test.YtbaggkbleehegaaGreatEvB
namespace Go.Proofs.YtbaggkbleehegaaGreat.E.Ct
open Go.RowKit
set_option linter.unusedVariables false
set_option linter.unusedSimpArgs false
section
variable {s : Su} {b k : Nat}
section
variable {lb : Array Value} {l B0 : Nat} {J Jx : SD (Vc × Vc) → World → Prop}
theorem sg_2 (h : s.Ok b) (aJx : AbidesFrom B0 Jx) (hY : HY l (Nx s.L.length b) J Jx) (hk : k < s.L.length) (next : GS lb J Jx s.segs (s.p2 (k + 1)) (lp fsg 1) (sg0 s l [(79, ni ((s.m + 1 : Nat) : Int)), (80, ni ((k + 1 : Nat) : Int))])) : GS lb J Jx s.segs (s.p2 k) (lp fsg 1) (sg0 s l [(79, ni ((s.m + 1 : Nat) : Int)), (80, ni (k : Int))]) := by
 have hb : E.okB PP 131 = true := by kernel_rfl
 have hkb := h.k
 have hn := h.n
 have hmm := h.hm
 have hm := s.nx_lt h k
 have hq := s.bf_lt h k
 have e1 := Su.el hk
 have e2 := Su.el hm
 have e3 := Su.el hq
 have lv := e_slevel h hk
 have lw := e_slevel h hq
 have nr := e_snear h hk
 have ca := e_after h hk
 have b1 := h.at_ hk
 have b2 := h.at_ hm
 have b3 := h.at_ hq
 have c1 := e_rcmp b1.1 h.p.1 (by omega)
 have c2 := e_rcmp b1.1 h.q.1 (by omega)
 have c3 := e_rcmp b3.2 b1.2 (by omega)
 have c4 := e_rcmp b2.2 b1.2 (by omega)
 have hp2 := s.p2_len k
 rw [s.p2_succ] at next
 have htip : s.sg2 k = if (!(s.level k) && (!(s.level (s.bf k)) && (s.near k && (!(lt0 (s.at_ k).1 s.P.1) && (!(gt0 (s.at_ k).1 s.Q.1) && (!(lt0 (s.at_ (s.bf k)).2 (s.at_ k).2) && !(lt0 (s.at_ (s.nx k)).2 (s.at_ k).2))))))) = true then [(((s.at_ k).1, s.P.2), ((s.at_ k).1, s.P.2))] else [] := rfl
 generalize hx1 : s.level k = x1 at lv htip
 generalize hx2 : s.level (s.bf k) = x2 at lw htip
 generalize hx3 : s.near k = x3 at nr htip
 generalize hu : s.at_ k = u at *
 generalize hv : s.at_ (s.nx k) = v at *
 generalize hz : s.at_ (s.bf k) = z at *
 let F0 : List F_ := [ye (t := decide ((k : Int) < ((s.m + 1 : Nat) : Int))) (decide_eq_true (by omega)), wq 85 ((k : Int) + ((s.m + 1 : Nat) : Int)) ((k + s.L.length : Nat) : Int) (by omega), wq 86 (((k + s.L.length : Nat) : Int) - 1) ((k + s.L.length - 1 : Nat) : Int) (by omega), rem_ (L := s.L) 88 (k + s.L.length - 1) s.m h.hm, cl lv]
 have skip : ∀ {G : Prop}, ((s.sg2 k = []) → G) → s.sg2 k = [] → G := fun f e => f e
 cases x1 with
 | true =>
  rw [show s.sg2 k = [] by rw [htip]; rfl, List.append_nil] at next
  exact GG.to mo_ [] [0, 1, 3, 4, 79, 80] [0] 1 (F0 ++ [yt, yt, yt, yt, yt, inc 177 k (by omega)]) next (by kernel_rfl)
 | false =>
  cases x2 with
  | true =>
   rw [show s.sg2 k = [] by rw [htip]; rfl, List.append_nil] at next
   exact GG.to mo_ [] [0, 1, 3, 4, 79, 80] [0] 1 (F0 ++ [nf, cl lw, yt, yt, yt, yt, inc 177 k (by omega)]) next (by kernel_rfl)
  | false =>
   cases x3 with
   | false =>
    rw [show s.sg2 k = [] by rw [htip]; rfl, List.append_nil] at next
    exact GG.to mo_ [] [0, 1, 3, 4, 79, 80] [0] 1 (F0 ++ [nf, cl lw, nf, cl nr, yt, yt, yt, inc 177 k (by omega)]) next (by kernel_rfl)
   | true =>
    cases h1 : lt0 u.1 s.P.1 with
    | true =>
     rw [show s.sg2 k = [] by rw [htip, h1]; rfl, List.append_nil] at next
     exact GG.to mo_ [] [0, 1, 3, 4, 79, 80] [0] 1 (F0 ++ [nf, cl lw, nf, cl nr, nf, .sel _ _ _ e1, cl c1, ye (t := lt0 u.1 s.P.1) h1, yt, inc 177 k (by omega)]) next (by kernel_rfl)
    | false =>
     let F1 : List F_ := F0 ++ [nf, cl lw, nf, cl nr, nf, .sel _ _ _ e1, cl c1, na (t := lt0 u.1 s.P.1) h1, .sel _ _ _ e1, cl c2]
     cases h2 : gt0 u.1 s.Q.1 with
     | true =>
      rw [show s.sg2 k = [] by rw [htip, h1, h2]; rfl, List.append_nil] at next
      exact GG.to mo_ [] [0, 1, 3, 4, 79, 80] [0] 1 (F1 ++ [ye (t := gt0 u.1 s.Q.1) h2, inc 177 k (by omega)]) next (by kernel_rfl)
     | false =>
      let F2 : List F_ := F1 ++ [na (t := gt0 u.1 s.Q.1) h2, .sel _ _ _ e3, .sel _ _ _ e1, cl c3]
      cases h3 : lt0 z.2 u.2 with
      | true =>
       rw [show s.sg2 k = [] by rw [htip, h1, h2, h3]; rfl, List.append_nil] at next
       exact GG.to mo_ [] [0, 1, 3, 4, 79, 80] [0] 1 (F2 ++ [ye (t := lt0 z.2 u.2) h3, yt, inc 177 k (by omega)]) next (by kernel_rfl)
      | false =>
       let F3 : List F_ := F2 ++ [na (t := lt0 z.2 u.2) h3, cl ca, .sel _ _ _ e2, .sel _ _ _ e1, cl c4]
       cases h4 : lt0 v.2 u.2 with
       | true =>
        rw [show s.sg2 k = [] by rw [htip, h1, h2, h3, h4]; rfl, List.append_nil] at next
        exact GG.to mo_ [] [0, 1, 3, 4, 79, 80] [0] 1 (F3 ++ [ye (t := lt0 v.2 u.2) h4, inc 177 k (by omega)]) next (by kernel_rfl)
       | false =>
        rw [show s.sg2 k = [((u.1, s.P.2), (u.1, s.P.2))] by rw [htip, h1, h2, h3, h4]; rfl] at next
        refine GG.to mo_ [.fz 10] [0, 1, 3, 4, 10, 79, 80] [0] 1 (F3 ++ [na (t := lt0 v.2 u.2) h4, .sel _ _ _ e1]) (td' := ryI fsg 19) (σ' := sg0 s l [(10, .ip (dV (u.1, s.P.2))), (79, ni ((s.m + 1 : Nat) : Int)), (80, ni (k : Int))]) ?_ (by kernel_rfl)
        refine GG.yieldD 4 [0, 1, 3, 4, 79, 80, 176] [0] [] [] [] (J := fun D W => J (s.p2 k, D) W) (JT := fun D W => J (s.p2 k ++ [((u.1, s.P.2), (u.1, s.P.2))], D) W) (JF := fun D W => Jx (s.p2 k ++ [((u.1, s.P.2), (u.1, s.P.2))], D) W) (vs := [.ag (sgV ((u.1, s.P.2), (u.1, s.P.2)))]) (l := l) (σT := sg0 s l [(79, ni ((s.m + 1 : Nat) : Int)), (80, ni (k : Int)), (176, bo false)]) (σF := sg0 s l [(79, ni ((s.m + 1 : Nat) : Int)), (80, ni (k : Int)), (176, bo true)])
         (fun nf u Wl D W1 q1 q2 q3 q4 => hY nf (s.p2 k) _ u Wl D W1 ⟨by omega, ⟨b1.1, h.p.2⟩, b1.1, h.p.2⟩ q1 q2 q3 q4) ?_ ?_ (by kernel_rfl)
        · exact GG.to mo_ [] [0, 1, 3, 4, 79, 80] [0] 1 [nf, inc 177 k (by omega)] next (by kernel_rfl)
        · refine GG.endR mo_ (fn_of hb).1 (by kernel_rfl) [yt] (by kernel_rfl) fun w0 B M w hC hbl => .inr ?_
          obtain ⟨D, hD⟩ := cd_end aJx hC hbl
          exact ⟨_, D, trivial, hD⟩
end
theorem it_segs (h : s.Ok b) : IterD PP 131 [.ip s.v] (fun x : Vc × Vc => [.ag (sgV x)]) (fun xs => xs = s.segs) (fun _ => True) (Nx s.L.length b) := by
 have hb : E.okB PP 131 = true := by kernel_rfl
 have hn := h.n
 have hmm := h.hm
 have hl : (s.L.map dV).length = s.L.length := List.length_map ..
 refine IterD.of (fn := fsg) (fn_of hb).1 (by kernel_rfl) (okF_of hb) fun lb l B0 J Jx hr aJ aJx hY => ?_
 have loop2 : GS lb J Jx s.segs (s.p2 0) (lp fsg 1) (sg0 s l [(79, ni ((s.m + 1 : Nat) : Int)), (80, ni ((0 : Nat) : Int))]) := by
  refine GG.loop (fun (k : Nat) => sg0 s l [(79, ni ((s.m + 1 : Nat) : Int)), (80, ni (k : Int))]) (fun k => k ≤ s.L.length) (fun k => s.L.length - k) (Ct := fun k => CD fun D W => J (s.p2 k, D) W) ?_ 0 (Nat.zero_le _)
  intro k hk ih
  by_cases g : k < s.L.length
  · exact sg_2 h aJx hY g (ih (k + 1) g (by omega))
  · have e : k = s.L.length := by omega
    subst e
    refine GG.endR mo_ (fn_of hb).1 (by kernel_rfl) [na (t := decide ((s.L.length : Int) < ((s.m + 1 : Nat) : Int))) (decide_eq_false (by omega))] (by kernel_rfl) fun w0 B M w hC hbl => .inl ?_
    obtain ⟨D, hD⟩ := cd_end aJ hC hbl
    exact ⟨_, D, rfl, hD⟩
 rw [s.p2_0] at loop2
 refine GG.to mo_ [.fz 4] [0, 1, 3, 4, 18, 19] [0] 1 [.eqv 13 (ni ((s.L.map dV).length : Int)) (ni ((s.m + 1 : Nat) : Int)) (by rw [hl, h.hm])] (td' := lp fsg 0) (σ' := sg0 s l [(18, ni ((s.m + 1 : Nat) : Int)), (19, ni ((0 : Nat) : Int))]) ?_ (by kernel_rfl)
 refine GG.loop (fun (k : Nat) => sg0 s l [(18, ni ((s.m + 1 : Nat) : Int)), (19, ni (k : Int))]) (fun k => k ≤ s.L.length) (fun k => s.L.length - k) (Ct := fun k => CD fun D W => J (s.p1 k, D) W) ?_ 0 (Nat.zero_le _)
 intro k hk ih
 by_cases g : k < s.L.length
 · exact sg_1 h aJx hY g (ih (k + 1) g (by omega))
 · have e : k = s.L.length := by omega
   subst e
   exact GG.to mo_ [] [0, 1, 3, 4, 79, 80] [0] 1 [na (t := decide ((s.L.length : Int) < ((s.m + 1 : Nat) : Int))) (decide_eq_false (by omega))] loop2 (by kernel_rfl)
end
end Go.Proofs.YtbaggkbleehegaaGreat.E.Ct
namespace Go.Proofs.YtbaggkbleehegaaGreat.E.Ct
open Go.RowKit
set_option linter.unusedVariables false
set_option linter.unusedSimpArgs false
section
variable {s : Su} {b k : Nat}
def sgR (l : List (Vc × Vc)) : List (List V) := l.map sgV
theorem sgR_len (l : List (Vc × Vc)) : (sgR l).length = l.length := List.length_map ..
theorem sgR_app (l m : List (Vc × Vc)) : sgR l ++ sgR m = sgR (l ++ m) := by unfold sgR; rw [List.map_append]
noncomputable abbrev fap : Func := fnOf PP 130
noncomputable def apS (s : Su) (m1 m2 : List (Nat × V)) : List V := (at_ fap ([(2, .lp 0 0)] ++ (m1 ++ ((6, .cl 131 [.ip s.v]) :: m2))) []).t
def apH (l : List (Vc × Vc)) : List HO := [.bx 52 [.ow 1], .rw 56 16 (sgR l)]
theorem three_of {α : Type} {xs : List α} (h : xs.length = 3) : ∃ x y z, xs = [x, y, z] := by
 match xs, h with
 | [x, y, z], _ => exact ⟨x, y, z, rfl⟩
def mkC2 (ts : Array TypeId) (xs : List Operand) : Op := .call ⟨.value (xs.getD 0 (.tmp 0)), #[xs.getD 1 (.tmp 0), xs.getD 2 (.tmp 0)], ts⟩
/-- A call to which a nil slice is given; what it returns is a new row. -/
theorem x_cn {P : Program} {f : FuncId} {ts : Array TypeId} {T z b : Nat} {l : List (List V)} {y : V} (hp : Pure P f [.nl, y] (.o T z l)) (hy : refs (fun _ => false) y = true) : Ext P (mkC2 ts) [.cl f [], .k (.slice none 0 0), y] [] [(b, .rw T z l)] (.ow b) := by
 intro B M h m w a o xs ho K hl hr hrd hd
 obtain ⟨x0, x1, x2, rfl⟩ := three_of hl
 have r0 := hr 0 x0 _ rfl rfl
 have r1 := Rep.k_inv (hr 1 x1 _ rfl rfl)
 have r2 := hr 2 x2 _ rfl rfl
 simp only [mkC2, List.getD_cons_zero, List.getD_cons_succ] at ho
 have hce : a.eval x0 = .func (.func f) #[] #[] := by
  generalize a.eval x0 = u at r0
  cases r0 with
  | cl _ _ cs _ h1 h2 =>
   have : cs = #[] := Array.eq_empty_of_size_eq_zero (by simpa using h1)
   rw [this]
 have hargs : Reps w (Av M h m) no #[a.eval x1, a.eval x2] [.nl, y] := by
  refine ⟨rfl, fun j x hx => ?_, K.gl.mo (m := m) (m' := m) Mo.refl⟩
  match j with
  | 0 =>
   simp only [List.getElem?_cons_zero, Option.some.injEq] at hx
   subst hx
   show Rep _ _ _ (a.eval x1) _
   rw [r1]
   exact .nl _
  | 1 =>
   simp only [List.getElem?_cons_succ, List.getElem?_cons_zero, Option.some.injEq] at hx
   subst hx
   exact refs_mo (p := fun _ => false) hy (fun b hb => by cases hb) ⟨Nat.le_refl _, fun _ _ _ => rfl, fun g e => .inl e, fun _ _ e => e⟩ r2
  | j + 2 => simp at hx
 have hcall := hp.2 w (Av M h m) _ (fun g hg => K.av_lt hg) hargs
 obtain ⟨hd1, hd2⟩ := hd b (by simp) (by simp)
 refine .inr (.inr ⟨f, #[a.eval x1, a.eval x2], ?_, hcall.mono fun e w' he => ?_⟩)
 · have := hp.1 #[a.eval x1, a.eval x2] w
   simp [execOp, ho, resolve, hce, Deferred.ofValue, invoke, this]
 · obtain ⟨u, rfl, h1, h2⟩ := he
   refine ⟨u, rfl, ?_⟩
   obtain ⟨q1, xs, q2, q3, q4⟩ := h1
   have hu : ∀ g, E.blk u = some g → w.heap.size ≤ g := fun g hg => by
    rcases q2.2 with ⟨rfl, _⟩ | ⟨g', cap, cur, rfl, hB, _⟩
    · cases hg
    · simp only [E.blk, Option.some.injEq] at hg; subst hg; exact Nat.le_of_not_lt hB
   have hown : OwR w' B T z u l.length xs := ⟨q2.1, by
    rcases q2.2 with h5 | ⟨g', cap, cur, h5, hB, r⟩
    · exact .inl h5
    · exact .inr ⟨g', cap, cur, h5, fun e => hB (K.bs _ e), r⟩⟩
   refine ⟨upd m b (some u), K.newAt hd1 hd2 hu h2 q1 hown q3 (fun j x hx => q4 j x hx), ?_, .new hd1 hd2 hu h2, Bl.of h2 K.bs, fun b' hb => ?_⟩
   · rcases q2.2 with ⟨rfl, _⟩ | ⟨g', cap, cur, rfl, _⟩
     · exact .ow _ _ _ _ _ upd_eq
     · exact .ow _ _ _ _ _ upd_eq
   · by_cases e : b' = b
     · subst e; exact .inr (by simp)
     · rw [upd_ne e] at hb; exact .inl hb
theorem e_apseq (h : s.Ok b) : Pure PP 130 [.nl, .cl 131 [.ip s.v]] (.o 56 16 (sgR s.segs)) := by
 have hn := h.n
 refine pf (by kernel_rfl) (.to mo_ [.oc 0 0 (.rw 56 16 [])] [2, 6] [0, 1] 2 [] (td' := rfI fap) (σ' := ⟨apS s [] [], apH []⟩) ?_ (by kernel_rfl))
 refine Gd.rangeD mo_ (fn_of (f := 130) (by kernel_rfl)).1 (k := (rf fap).2.2.2.2) (σ := ⟨apS s [] [], _⟩) (gf := 131) (caps := [.ip s.v]) (by kernel_rfl) (it_segs h) (fun x => by kernel_rfl) (fun b => Nat.beq b 1) (by kernel_rfl)
  (fun pre => apH pre) rfl (fun pre => ⟨rfl, fun b => ?_⟩) (fun x => apS s [(5, .ip (sgV x))] [(7, .ag (sgV x))]) (fun pre x => .of [.fz 5] [2, 5, 6, 7] [0, 1] [] (by kernel_rfl)) (fun _ => True) trivial (fun pre x hlt _ => ⟨trivial, ?_⟩) (fun xs hS _ => ?_)
 · match b with
   | 0 | 1 => rfl
   | b + 2 => rfl
 · exact RnM.ofH [.mv 1 3] [] [0, 1] [.app (sgR pre) (sgR [x]) (sgR (pre ++ [x])) 20000 (sgR_app _ _) Nat.zero_lt_one (by rw [sgR_len, List.length_append]; have := hlt.1; simp; omega)] (by kernel_rfl)
 · subst hS
   exact fi [] (by kernel_rfl) (by kernel_rfl)
theorem e_collect (h : s.Ok b) : Pure PP 66 [.cl 131 [.ip s.v]] (.o 56 16 (sgR s.segs)) := tr [.ext (some 4) (mkC2 #[52, 116]) _ [] _ _ (x_cn (b := 0) (e_apseq h) (by kernel_rfl))] (by kernel_rfl)
theorem e_on (h : s.Ok b) : Pure PP 15 [dL s.L, .ag (dV s.P ++ dV s.Q), .ag (dR s.e)] (.o 56 16 (sgR s.segs)) := tr [cl (e_segs s), cl (e_collect h)] (by kernel_rfl)
end
end Go.Proofs.YtbaggkbleehegaaGreat.E.Ct
namespace Go.Proofs.YtbaggkbleehegaaGreat.E.Ct
open Go.RowKit
set_option linter.unusedVariables false
set_option linter.unusedSimpArgs false
section
variable {s : Su} {b k : Nat}
theorem gt_lt (a b : Rat) : gt0 a b = lt0 b a := by
 unfold gt0 lt0
 rw [cmpQ_neg]
 exact cmpQ_pos a b
def ge0 (a b : Rat) : Bool := decide (cmpQ a b ≥ 0)
theorem ge_lt (a b : Rat) : ge0 a b = !(lt0 a b) := by
 unfold ge0 lt0
 by_cases h : cmpQ a b < 0
 · rw [decide_eq_true h, decide_eq_false (by omega)]; rfl
 · rw [decide_eq_false h, decide_eq_true (by omega)]; rfl
theorem le_gt (a b : Rat) : le0 a b = !(gt0 a b) := by
 unfold le0 gt0
 by_cases h : cmpQ a b > 0
 · rw [decide_eq_true h, decide_eq_false (by omega)]; rfl
 · rw [decide_eq_false h, decide_eq_true (by omega)]; rfl
noncomputable abbrev fo6 : Func := fnOf PP 17
noncomputable def o6 (s : Su) (l : List (Vc × Vc)) (m1 m2 m3 : List (Nat × V)) : St := at_ fo6 ([(0, dL s.L), (4, .ip (dV s.P ++ dV s.Q)), (5, .ip (dR s.e)), (7, .ow 3), (8, ni ((s.m + 1 : Nat) : Int)), (9, .ip (dR s.P.2))] ++ m1) [.dead, .dead, .dead, .rw 56 16 (sgR l)]
abbrev GO6 (s : Su) (td : List Item) (σ : St) : Prop := Gd PP 17 (.o 56 16 (sgR s.segs)) td σ
theorem o6_1 (h : s.Ok b) (hk : k < s.L.length) (next : GO6 s (lp fo6 0) (o6 s (s.p1 (k + 1)) [(10, ni ((k + 1 : Nat) : Int))] [] [])) : GO6 s (lp fo6 0) (o6 s (s.p1 k) [(10, ni (k : Int))] [] []) := by
 have hkb := h.k
 have hn := h.n
 have hmm := h.hm
 have hm := s.nx_lt h k
 have e1 := Su.el hk
 have e2 := Su.el hm
 have lv := e_level h hk
 have b1 := (h.at_ hk).1
 have b2 := (h.at_ hm).1
 have hp1 := s.p1_len (k + 1)
 have hap : ∀ x, s.sg1 k = [x] → sgR (s.p1 k) ++ sgR [x] = sgR (s.p1 (k + 1)) := fun x hx => by rw [sgR_app, s.p1_succ, hx]
 have hno : s.sg1 k = [] → s.p1 (k + 1) = s.p1 k := fun hx => by rw [s.p1_succ, hx, List.append_nil]
 have hle : (sgR (s.p1 (k + 1))).length ≤ 20000 := by rw [sgR_len]; omega
 cases hlv : s.level k with
 | false =>
  rw [hno (by unfold Su.sg1; rw [if_neg (by rw [hlv]; simp)])] at next
  rw [hlv] at lv
  exact .to mo_ [] [0, 4, 5, 7, 8, 9, 10] [3] 4 [ye (t := decide ((k : Int) < ((s.m + 1 : Nat) : Int))) (decide_eq_true (by omega)), cl lv, yt, inc 28 k (by omega)] next (by kernel_rfl)
 | true =>
  rw [hlv] at lv
  have bf : Bq b (s.from_ k) := by unfold Su.from_; split; exact h.p.1; exact b1
  have bt : Bq b (s.to_ k) := by unfold Su.to_; split; exact h.q.1; exact b2
  have c1 := e_cmp4 h.p.1 b1 (by omega)
  have c2 := e_cmp4 h.q.1 b2 (by omega)
  have c3 := e_cmp4 bf bt (by omega)
  have mid : GO6 s (rg fo6 14) (o6 s (s.p1 k) [(10, ni (k : Int)), (11, .ip (dR (s.from_ k))), (12, .ip (dR (s.to_ k)))] [] []) := by
   have hx : s.sg1 k = if le0 (s.from_ k) (s.to_ k) = true then [((s.from_ k, s.P.2), (s.to_ k, s.P.2))] else [] := by
    unfold Su.sg1
    rw [hlv]
    simp
   generalize s.from_ k = f at *
   generalize s.to_ k = t at *
   cases hle0 : le0 f t with
   | false =>
    rw [hno (by rw [hx, if_neg (by rw [hle0]; simp)])] at next
    exact .to mo_ [] [0, 4, 5, 7, 8, 9, 10] [3] 4 [cl c3, na (t := le0 f t) hle0, inc 28 k (by omega)] next (by kernel_rfl)
   | true =>
    have hap2 := hap ((f, s.P.2), (t, s.P.2)) (by rw [hx, if_pos hle0])
    exact .to mo_ [.mv 3 5] [0, 4, 5, 7, 8, 9, 10] [3] 4 [cl c3, ye (t := le0 f t) hle0, .app (sgR (s.p1 k)) (sgR [((f, s.P.2), (t, s.P.2))]) (sgR (s.p1 (k + 1))) 20000 hap2 Nat.zero_lt_one hle, inc 28 k (by omega)] next (by kernel_rfl)
  unfold Su.from_ Su.to_ at mid
  let F1 : List F_ := [ye (t := decide ((k : Int) < ((s.m + 1 : Nat) : Int))) (decide_eq_true (by omega)), cl lv, nf, .sel _ _ _ e1, inc 42 k (by omega), rem_ (L := s.L) 44 (k + 1) s.m h.hm, .sel _ _ _ e2, cl c1]
  have g1 := gt_lt s.P.1 (s.at_ k).1
  have g2 : lt0 s.Q.1 (s.at_ (s.nx k)).1 = gt0 (s.at_ (s.nx k)).1 s.Q.1 := (gt_lt _ _).symm
  cases h1 : lt0 (s.at_ k).1 s.P.1 with
  | true =>
   cases h2 : gt0 (s.at_ (s.nx k)).1 s.Q.1 with
   | true =>
    rw [h1, h2, if_pos rfl, if_pos rfl] at mid
    exact .to mo_ [.fz 11, .fz 12] [0, 4, 5, 7, 8, 9, 10, 11, 12] [3] 4 (F1 ++ [ye (t := gt0 s.P.1 (s.at_ k).1) (g1.trans h1), cl c2, ye (t := lt0 s.Q.1 (s.at_ (s.nx k)).1) (g2.trans h2)]) mid (by kernel_rfl)
   | false =>
    rw [h1, h2, if_pos rfl, if_neg (by simp)] at mid
    exact .to mo_ [.fz 11, .fz 12] [0, 4, 5, 7, 8, 9, 10, 11, 12] [3] 4 (F1 ++ [ye (t := gt0 s.P.1 (s.at_ k).1) (g1.trans h1), cl c2, na (t := lt0 s.Q.1 (s.at_ (s.nx k)).1) (g2.trans h2)]) mid (by kernel_rfl)
  | false =>
   cases h2 : gt0 (s.at_ (s.nx k)).1 s.Q.1 with
   | true =>
    rw [h1, h2, if_neg (by simp), if_pos rfl] at mid
    exact .to mo_ [.fz 11, .fz 12] [0, 4, 5, 7, 8, 9, 10, 11, 12] [3] 4 (F1 ++ [na (t := gt0 s.P.1 (s.at_ k).1) (g1.trans h1), cl c2, ye (t := lt0 s.Q.1 (s.at_ (s.nx k)).1) (g2.trans h2)]) mid (by kernel_rfl)
   | false =>
    rw [h1, h2, if_neg (by simp), if_neg (by simp)] at mid
    exact .to mo_ [.fz 11, .fz 12] [0, 4, 5, 7, 8, 9, 10, 11, 12] [3] 4 (F1 ++ [na (t := gt0 s.P.1 (s.at_ k).1) (g1.trans h1), cl c2, na (t := lt0 s.Q.1 (s.at_ (s.nx k)).1) (g2.trans h2)]) mid (by kernel_rfl)
/-- Between the ends; a lowest corner. -/
def Su.btw (s : Su) (k : Nat) : Bool := le0 s.P.1 (s.at_ k).1 && le0 (s.at_ k).1 s.Q.1
def Su.low (s : Su) (k : Nat) : Bool := ge0 (s.at_ (s.bf k)).2 (s.at_ k).2 && ge0 (s.at_ (s.nx k)).2 (s.at_ k).2
theorem Su.tip_eq (s : Su) (k : Nat) : s.tip k = (s.near k && (s.btw k && (s.low k && (!(s.level k) && !(s.level (s.bf k)))))) := by
 unfold Su.tip Su.btw Su.low
 rw [le_gt, le_gt, ge_lt, ge_lt, gt_lt s.P.1]
 generalize s.level k = a1
 generalize s.level (s.bf k) = a2
 generalize s.near k = a3
 generalize lt0 (s.at_ k).1 s.P.1 = a4
 generalize gt0 (s.at_ k).1 s.Q.1 = a5
 generalize lt0 (s.at_ (s.bf k)).2 (s.at_ k).2 = a6
 generalize lt0 (s.at_ (s.nx k)).2 (s.at_ k).2 = a7
 cases a1 <;> cases a2 <;> cases a3 <;> cases a4 <;> cases a5 <;> cases a6 <;> cases a7 <;> rfl
theorem o6_2 (h : s.Ok b) (hk : k < s.L.length) (next : GO6 s (lp fo6 1) (o6 s (s.p2 (k + 1)) [(13, ni ((k + 1 : Nat) : Int))] [] [])) : GO6 s (lp fo6 1) (o6 s (s.p2 k) [(13, ni (k : Int))] [] []) := by
 have hkb := h.k
 have hn := h.n
 have hmm := h.hm
 have hm := s.nx_lt h k
 have hq := s.bf_lt h k
 have e1 := Su.el hk
 have e2 := Su.el hm
 have e3 := Su.el hq
 have lv := e_level h hk
 have lw := e_level h hq
 have b1 := h.at_ hk
 have b2 := h.at_ hm
 have b3 := h.at_ hq
 have nr := e_near b1.2 h.p.2 h.e hkb
 have cA := e_cmp4 h.p.1 b1.1 (by omega)
 have cB := e_cmp4 b1.1 h.q.1 (by omega)
 have cC := e_cmp4 b3.2 b1.2 (by omega)
 have cD := e_cmp4 b2.2 b1.2 (by omega)
 have hp2 := s.p2_len (k + 1)
 have hle : (sgR (s.p2 (k + 1))).length ≤ 20000 := by rw [sgR_len]; omega
 have hsg : s.sg2 k = if (nearB (s.at_ k).2 s.P.2 s.e && (s.btw k && (s.low k && (!(s.level k) && !(s.level (s.bf k)))))) = true then [(((s.at_ k).1, s.P.2), ((s.at_ k).1, s.P.2))] else [] := by
  unfold Su.sg2
  rw [s.tip_eq]
  rfl
 have hap : ∀ x, s.sg2 k = [x] → sgR (s.p2 k) ++ sgR [x] = sgR (s.p2 (k + 1)) := fun x hx => by rw [sgR_app, s.p2_succ, hx]
 have hno : s.sg2 k = [] → s.p2 (k + 1) = s.p2 k := fun hx => by rw [s.p2_succ, hx, List.append_nil]
 have mid : GO6 s (rg fo6 24) (o6 s (s.p2 k) [(13, ni (k : Int)), (14, .ip (dV (s.at_ k))), (17, bo (s.btw k)), (18, bo (s.low k))] [] []) := by
  generalize s.btw k = y1 at hsg
  generalize s.low k = y2 at hsg
  generalize s.level k = x1 at lv hsg
  generalize s.level (s.bf k) = x2 at lw hsg
  generalize nearB (s.at_ k).2 s.P.2 s.e = x3 at nr hsg
  generalize s.at_ k = u at *
  cases x3 with
  | false =>
   rw [hno (by rw [hsg]; rfl)] at next
   exact .to mo_ [] [0, 4, 5, 7, 8, 9, 13] [3] 4 [cl nr, nf, nf, nf, nf, nf, inc 84 k (by omega)] next (by kernel_rfl)
  | true =>
   cases y1 with
   | false =>
    rw [hno (by rw [hsg]; rfl)] at next
    exact .to mo_ [] [0, 4, 5, 7, 8, 9, 13] [3] 4 [cl nr, yt, nf, nf, nf, nf, inc 84 k (by omega)] next (by kernel_rfl)
   | true =>
    cases y2 with
    | false =>
     rw [hno (by rw [hsg]; rfl)] at next
     exact .to mo_ [] [0, 4, 5, 7, 8, 9, 13] [3] 4 [cl nr, yt, yt, nf, nf, nf, inc 84 k (by omega)] next (by kernel_rfl)
    | true =>
     cases x1 with
     | true =>
      rw [hno (by rw [hsg]; rfl)] at next
      exact .to mo_ [] [0, 4, 5, 7, 8, 9, 13] [3] 4 [cl nr, yt, yt, yt, cl lv, nf, nf, inc 84 k (by omega)] next (by kernel_rfl)
     | false =>
      let F : List F_ := [cl nr, yt, yt, yt, cl lv, yt, wq 158 ((k : Int) + ((s.m + 1 : Nat) : Int)) ((k + s.L.length : Nat) : Int) (by omega), wq 159 (((k + s.L.length : Nat) : Int) - 1) ((k + s.L.length - 1 : Nat) : Int) (by omega), rem_ (L := s.L) 161 (k + s.L.length - 1) s.m h.hm, cl lw]
      cases x2 with
      | true =>
       rw [hno (by rw [hsg]; rfl)] at next
       exact .to mo_ [] [0, 4, 5, 7, 8, 9, 13] [3] 4 (F ++ [nf, inc 84 k (by omega)]) next (by kernel_rfl)
      | false =>
       have hap2 := hap ((u.1, s.P.2), (u.1, s.P.2)) (by rw [hsg]; rfl)
       exact .to mo_ [.mv 3 5] [0, 4, 5, 7, 8, 9, 13] [3] 4 (F ++ [yt, .app (sgR (s.p2 k)) (sgR [((u.1, s.P.2), (u.1, s.P.2))]) (sgR (s.p2 (k + 1))) 20000 hap2 Nat.zero_lt_one hle, inc 84 k (by omega)]) next (by kernel_rfl)
 unfold Su.btw Su.low at mid
 let F0 : List F_ := [ye (t := decide ((k : Int) < ((s.m + 1 : Nat) : Int))) (decide_eq_true (by omega)), .sel _ _ _ e1, wq 92 ((k : Int) + ((s.m + 1 : Nat) : Int)) ((k + s.L.length : Nat) : Int) (by omega), wq 93 (((k + s.L.length : Nat) : Int) - 1) ((k + s.L.length - 1 : Nat) : Int) (by omega), rem_ (L := s.L) 95 (k + s.L.length - 1) s.m h.hm, .sel _ _ _ e3, inc 100 k (by omega), rem_ (L := s.L) 102 (k + 1) s.m h.hm, .sel _ _ _ e2, cl cA]
 cases hA : le0 s.P.1 (s.at_ k).1 with
 | true =>
  cases hC : ge0 (s.at_ (s.bf k)).2 (s.at_ k).2 with
  | true =>
   rw [hA, hC, Bool.true_and, Bool.true_and] at mid
   exact .to mo_ [.fz 14] [0, 4, 5, 7, 8, 9, 13, 14, 17, 18] [3] 4 (F0 ++ [ye (t := le0 s.P.1 (s.at_ k).1) hA, cl cB, cl cC, ye (t := ge0 (s.at_ (s.bf k)).2 (s.at_ k).2) hC, cl cD]) mid (by kernel_rfl)
  | false =>
   rw [hA, hC, Bool.true_and, Bool.false_and] at mid
   exact .to mo_ [.fz 14] [0, 4, 5, 7, 8, 9, 13, 14, 17, 18] [3] 4 (F0 ++ [ye (t := le0 s.P.1 (s.at_ k).1) hA, cl cB, cl cC, na (t := ge0 (s.at_ (s.bf k)).2 (s.at_ k).2) hC]) mid (by kernel_rfl)
 | false =>
  cases hC : ge0 (s.at_ (s.bf k)).2 (s.at_ k).2 with
  | true =>
   rw [hA, hC, Bool.false_and, Bool.true_and] at mid
   exact .to mo_ [.fz 14] [0, 4, 5, 7, 8, 9, 13, 14, 17, 18] [3] 4 (F0 ++ [na (t := le0 s.P.1 (s.at_ k).1) hA, cl cC, ye (t := ge0 (s.at_ (s.bf k)).2 (s.at_ k).2) hC, cl cD]) mid (by kernel_rfl)
  | false =>
   rw [hA, hC, Bool.false_and, Bool.false_and] at mid
   exact .to mo_ [.fz 14] [0, 4, 5, 7, 8, 9, 13, 14, 17, 18] [3] 4 (F0 ++ [na (t := le0 s.P.1 (s.at_ k).1) hA, cl cC, na (t := ge0 (s.at_ (s.bf k)).2 (s.at_ k).2) hC]) mid (by kernel_rfl)
theorem e_on6 (h : s.Ok b) : Pure PP 17 [dL s.L, .ag (dV s.P ++ dV s.Q), .ag (dR s.e)] (.o 56 16 (sgR s.segs)) := by
 have hn := h.n
 have hmm := h.hm
 have hl : (s.L.map dV).length = s.L.length := List.length_map ..
 have loop2 : GO6 s (lp fo6 1) (o6 s (s.p2 0) [(13, ni ((0 : Nat) : Int))] [] []) := by
  refine Gd.loop (fun (k : Nat) => o6 s (s.p2 k) [(13, ni (k : Int))] [] []) (fun k => k ≤ s.L.length) (fun k => s.L.length - k) ?_ 0 (Nat.zero_le _)
  intro k hk ih
  by_cases g : k < s.L.length
  · exact o6_2 h g (ih (k + 1) g (by omega))
  · have e : k = s.L.length := by omega
    subst e
    exact fi [na (t := decide ((s.L.length : Int) < ((s.m + 1 : Nat) : Int))) (decide_eq_false (by omega))] (by kernel_rfl) (by kernel_rfl)
 rw [s.p2_0] at loop2
 refine pf (by kernel_rfl) (.to mo_ [.ow 7 (.rw 56 16 []), .fz 4, .fz 5, .fz 9] [0, 4, 5, 7, 8, 9, 10] [3] 4 [.eqv 20 (ni ((s.L.map dV).length : Int)) (ni ((s.m + 1 : Nat) : Int)) (by rw [hl, h.hm])] (td' := lp fo6 0) (σ' := o6 s (s.p1 0) [(10, ni ((0 : Nat) : Int))] [] []) ?_ (by kernel_rfl))
 refine Gd.loop (fun (k : Nat) => o6 s (s.p1 k) [(10, ni (k : Int))] [] []) (fun k => k ≤ s.L.length) (fun k => s.L.length - k) ?_ 0 (Nat.zero_le _)
 intro k hk ih
 by_cases g : k < s.L.length
 · exact o6_1 h g (ih (k + 1) g (by omega))
 · have e : k = s.L.length := by omega
   subst e
   exact .to mo_ [] [0, 4, 5, 7, 8, 9, 13] [3] 4 [na (t := decide ((s.L.length : Int) < ((s.m + 1 : Nat) : Int))) (decide_eq_false (by omega))] loop2 (by kernel_rfl)
end
end Go.Proofs.YtbaggkbleehegaaGreat.E.Ct
namespace Go.Proofs.YtbaggkbleehegaaGreat.E.Ct
open Go.RowKit
set_option linter.unusedVariables false
set_option linter.unusedSimpArgs false
structure Pi where
 id : Int
 home : Int
 rim : List (Int × Int)
 worn : List Bool
 marks : List Int
 tol : Rat
 light : Rat
 heavy : Rat
 str : Rat
 rough : Rat
def ptR (l : List (Int × Int)) : List (List V) := l.map fun p => [ni p.1, ni p.2]
def wnR (l : List Bool) : List (List V) := l.map fun p => [bo p]
def Pi.v (p : Pi) : List V := [ni p.id, ni p.home, .sl (ptR p.rim), .sl (wnR p.worn), zl p.marks] ++ (dR p.tol ++ (dR p.light ++ (dR p.heavy ++ (dR p.str ++ dR p.rough))))
def qv (x : Int × Int) : Vc := (Rat.divInt x.1 1, Rat.divInt x.2 1)
def Pi.rimV (p : Pi) : List Vc := p.rim.map qv
structure Pi.Ok (p : Pi) (b : Nat) : Prop where
 r : ∀ x ∈ p.rim, W.Is64 x.1 ∧ W.Is64 x.2
 n : 0 < p.rim.length ∧ p.rim.length ≤ 1000
 tol : Bq b p.tol
 light : Bq b p.light
 heavy : Bq b p.heavy
 str : Bq b p.str
 rough : Bq b p.rough
section
variable {p : Pi} {b k : Nat} {x y : Int} {r t : Rat}
theorem get_of {α : Type} {l : List α} {i : Nat} (h : i < l.length) : ∃ x, l[i]? = some x ∧ x ∈ l := ⟨l[i], List.getElem?_eq_getElem h, List.getElem_mem h⟩
theorem is1_ : W.Is64 1 := ⟨by decide, by decide⟩
theorem e_pof (hx : W.Is64 x) (hy : W.Is64 y) : Pure PP 64 [ni x, ni y] (.ag (dV (qv (x, y)))) := tr [cl (e_rof hx is1_), cl (e_rof hy is1_)] (by kernel_rfl)
theorem pt_at {q : Int × Int} {l : List (Int × Int)} (h : l[k]? = some q) : (ptR l)[k]? = some [ni q.1, ni q.2] := by unfold ptR; rw [List.getElem?_map, h]; rfl
theorem rim_app {q : Int × Int} (h : p.rim[k]? = some q) : (p.rimV.take k).map dV ++ [qv q].map dV = (p.rimV.take (k + 1)).map dV := by
 rw [List.take_add_one]
 unfold Pi.rimV
 rw [List.getElem?_map, h, List.map_append]
 rfl
noncomputable abbrev frm : Func := fnOf PP 49
theorem e_rim (h : p.Ok b) : Pure PP 49 [.ag p.v] (.o 43 8 (p.rimV.map dV)) := by
 have hn := h.n
 have hl : (ptR p.rim).length = p.rim.length := List.length_map ..
 have hv : p.rimV.length = p.rim.length := List.length_map ..
 let X : Nat → St := fun k => at_ frm [(3, .ow 1), (7, .sl (ptR p.rim)), (8, ni (p.rim.length : Int)), (9, ni (k : Int))] [.dead, .rw 43 8 ((p.rimV.take k).map dV)]
 refine pf (by kernel_rfl) (.to mo_ [.ow 3 (.rw 43 8 [])] [3, 7, 8, 9] [1] 2 [.eqv 8 (ni ((ptR p.rim).length : Int)) (ni (p.rim.length : Int)) (by rw [hl])] (td' := lp frm 0) (σ' := X 0) ?_ (by kernel_rfl))
 refine Gd.loop X (fun k => k ≤ p.rim.length) (fun k => p.rim.length - k) ?_ 0 (Nat.zero_le _)
 intro k hk ih
 by_cases g : k < p.rim.length
 · obtain ⟨q, hq, hm⟩ := get_of g
   obtain ⟨h1, h2⟩ := h.r q hm
   exact .to mo_ [.mv 1 4] [3, 7, 8, 9] [1] 2 [ye (t := decide ((k : Int) < (p.rim.length : Int))) (decide_eq_true (by omega)), .sel _ _ _ (pt_at hq), cl (e_pof h1 h2), .app ((p.rimV.take k).map dV) ([qv q].map dV) ((p.rimV.take (k + 1)).map dV) 2000 (rim_app hq) Nat.zero_lt_one (by rw [List.length_map, List.length_take]; omega), inc 21 k (by omega)] (ih (k + 1) g (by omega)) (by kernel_rfl)
 · have e : k = p.rim.length := by omega
   subst e
   have hX : X p.rim.length = at_ frm [(3, .ow 1), (7, .sl (ptR p.rim)), (8, ni (p.rim.length : Int)), (9, ni (p.rim.length : Int))] [.dead, .rw 43 8 (p.rimV.map dV)] := by simp only [X]; rw [← hv, List.take_length]
   rw [hX]
   exact fi [na (t := decide ((p.rim.length : Int) < (p.rim.length : Int))) (decide_eq_false (by omega))] (by kernel_rfl) (by kernel_rfl)
noncomputable abbrev fr12 : Func := fnOf PP 62
theorem e_rim12w (hr : ∀ x ∈ p.rim, W.Is64 x.1 ∧ W.Is64 x.2) (hn : p.rim.length ≤ 1000) : Pure PP 62 [.ag p.v] (.o 43 8 (p.rimV.map dV)) := by
 have hl : (ptR p.rim).length = p.rim.length := List.length_map ..
 have hv : p.rimV.length = p.rim.length := List.length_map ..
 let X : Nat → St := fun k => at_ fr12 [(1, .ip p.v), (3, .ow 1), (4, ni (k : Int))] [.dead, .rw 43 8 ((p.rimV.take k).map dV)]
 refine pf (by kernel_rfl) (.to mo_ [.ow 3 (.rw 43 8 []), .fz 1] [1, 3, 4] [1] 2 [] (td' := lp fr12 0) (σ' := X 0) ?_ (by kernel_rfl))
 refine Gd.loop X (fun k => k ≤ p.rim.length) (fun k => p.rim.length - k) ?_ 0 (Nat.zero_le _)
 intro k hk ih
 by_cases g : k < p.rim.length
 · obtain ⟨q, hq, hm⟩ := get_of g
   obtain ⟨h1, h2⟩ := hr q hm
   exact .to mo_ [.mv 1 3] [1, 3, 4] [1] 2 [.eqv 8 (ni ((ptR p.rim).length : Int)) (ni (p.rim.length : Int)) (by rw [hl]), ye (t := decide ((k : Int) < (p.rim.length : Int))) (decide_eq_true (by omega)), .sel _ _ _ (pt_at hq), .sel _ _ _ (pt_at hq), cl (e_vof h1 h2), .app ((p.rimV.take k).map dV) ([qv q].map dV) ((p.rimV.take (k + 1)).map dV) 2000 (rim_app hq) Nat.zero_lt_one (by rw [List.length_map, List.length_take]; omega), inc 11 k (by omega)] (ih (k + 1) g (by omega)) (by kernel_rfl)
 · have e : k = p.rim.length := by omega
   subst e
   have hX : X p.rim.length = at_ fr12 [(1, .ip p.v), (3, .ow 1), (4, ni (p.rim.length : Int))] [.dead, .rw 43 8 (p.rimV.map dV)] := by simp only [X]; rw [← hv, List.take_length]
   rw [hX]
   exact fi [.eqv 8 (ni ((ptR p.rim).length : Int)) (ni (p.rim.length : Int)) (by rw [hl]), na (t := decide ((p.rim.length : Int) < (p.rim.length : Int))) (decide_eq_false (by omega))] (by kernel_rfl) (by kernel_rfl)
theorem e_rim12 (h : p.Ok b) : Pure PP 62 [.ag p.v] (.o 43 8 (p.rimV.map dV)) := e_rim12w h.r h.n.2
def lsr (a b : Rat) : Rat := if gt0 a b = true then b else a
theorem e_lsr (h1 : Bq b r) (h2 : Bq b t) (hb : b ≤ 100000000) : Pure PP 76 [.ag (dR r), .ag (dR t)] (.ag (dR (lsr r t))) := by
 have c := e_rcmp h1 h2 (by omega)
 unfold lsr
 cases g : gt0 r t with
 | true => exact tr [cl c, ye (t := gt0 r t) g] (by kernel_rfl)
 | false => exact tr [cl c, na (t := gt0 r t) g] (by kernel_rfl)
theorem e_lsr6 (h1 : Bq b r) (h2 : Bq b t) (hb : b ≤ 100000000) : Pure PP 78 [.ag (dR r), .ag (dR t)] (.ag (dR (lsr r t))) := by
 have c := e_cmp4 h1 h2 (by omega)
 have hl := le_gt r t
 unfold lsr
 cases g : gt0 r t with
 | true => exact tr [cl c, na (t := le0 r t) (by rw [hl, g]; rfl)] (by kernel_rfl)
 | false => exact tr [cl c, ye (t := le0 r t) (by rw [hl, g]; rfl)] (by kernel_rfl)
end
end Go.Proofs.YtbaggkbleehegaaGreat.E.Ct
