/-
 CONTACT: Between of both, by the engine.
-/
import Derived.Test.YtbaggkbleehegaaGreatEvF
namespace Go.Proofs.YtbaggkbleehegaaGreat.E.Ct
open Go.RowKit
set_option linter.unusedVariables false
set_option linter.unusedSimpArgs false
/-- A bit of a set. -/
def bitV (s : Int) (k : Nat) : Int := IntKind.i64.wrap ((BitVec.ofInt IntKind.i64.bits (s.fdiv (2 ^ min (k : Int).toNat IntKind.i64.bits)) &&& BitVec.ofInt IntKind.i64.bits 1).toNat : Int)
theorem bit_01 (s : Int) (k : Nat) : bitV s k = 0 ∨ bitV s k = 1 := by
 unfold bitV
 generalize BitVec.ofInt IntKind.i64.bits (s.fdiv (2 ^ min (k : Int).toNat IntKind.i64.bits)) = x
 have h : (x &&& BitVec.ofInt IntKind.i64.bits 1).toNat = x.toNat % 2 := by
  rw [BitVec.toNat_and]
  show x.toNat &&& 1 = _
  exact Nat.and_one_is_mod _
 rw [h]
 have : x.toNat % 2 = 0 ∨ x.toNat % 2 = 1 := by omega
 rcases this with h | h <;> rw [h]
 · left; decide
 · right; decide
def inB (s : Int) (k : Nat) : Bool := bitV s k == 1
theorem bit_0 (s : Int) (k : Nat) : (bitV s k == 0) = !(inB s k) := by
 unfold inB
 rcases bit_01 s k with h | h <;> rw [h] <;> rfl
section
variable {p : Pi} {pl : Pl} {b k j : Nat} {u : Vc} {st : Int}
theorem e_in (s : Int) (k : Nat) : Pure PP 38 [ni s, ni k] (bo (inB s k)) := tr [] (by kernel_rfl)
theorem e_put5 (b1 : Bv j pl.1) (b2 : Bv j pl.2) (bu : Bv k u) (hk : 40 * (j + k) + 100 ≤ 800000000000) : Pure PP 63 [.ag (dPl pl), .ag (dV u)] (.ag (dV (vput pl u))) :=
 tr [cl (e_vrot5 b1 bu (by omega)), cl (e_vadd5 (b1.rot bu) b2 (by omega))] (by kernel_rfl)
/-- The rim of a piece as it is placed. -/
def plRim (p : Pi) (pl : Pl) : List Vc := p.rimV.map (vput pl)
structure Pi.Good (p : Pi) (pl : Pl) (b : Nat) : Prop where
 ok : p.Ok b
 r : ∀ a ∈ p.rimV, Bv b a
 t : Bv b pl.1
 a : Bv b pl.2
 n : p.rim.length ≤ 100
 k : b ≤ 10000
theorem Pi.Good.bits (h : p.Good pl b) : ∀ a ∈ plRim p pl, Bv (20 * b + 10) a := fun a ha => (map_put_bits h.t h.a h.r a ha).mono (by omega)
theorem plRim_len (p : Pi) (pl : Pl) : (plRim p pl).length = p.rim.length := by unfold plRim Pi.rimV; simp
noncomputable abbrev fpd : Func := fnOf PP 12
theorem e_placed (h : p.Good pl b) : Pure PP 12 [.ag p.v, .ag (dPl pl)] (.o 43 8 ((plRim p pl).map dV)) := by
 have hn := h.ok.n
 have hkb := h.k
 have hv : p.rimV.length = p.rim.length := List.length_map ..
 have hl : (p.rimV.map dV).length = p.rim.length := by rw [List.length_map, hv]
 have hq := plRim_len p pl
 let X : Nat → St := fun k => at_ fpd [(3, .ip (dPl pl)), (5, dL p.rimV), (6, .ow 3), (7, ni (k : Int))] [.dead, .dead, .dead, .rw 43 8 (((plRim p pl).take k).map dV)]
 refine pf (by kernel_rfl) (.to mo_ [.ow 6 (.rw 43 8 []), .fz 3, .fz 5] [3, 5, 6, 7] [3] 4 [cl (e_rim12 h.ok)] (td' := lp fpd 0) (σ' := X 0) ?_ (by kernel_rfl))
 refine Gd.loop X (fun k => k ≤ p.rim.length) (fun k => p.rim.length - k) ?_ 0 (Nat.zero_le _)
 intro k hk ih
 by_cases g : k < p.rim.length
 · obtain ⟨q, hqr, hm⟩ := get_of (l := p.rimV) (i := k) (by omega)
   have hs : (p.rimV.map dV)[k]? = some (dV q) := by rw [List.getElem?_map, hqr]; rfl
   have hap : ((plRim p pl).take k).map dV ++ [vput pl q].map dV = ((plRim p pl).take (k + 1)).map dV := by
    rw [List.take_add_one]
    unfold plRim
    rw [List.getElem?_map, hqr, List.map_append]
    rfl
   exact .to mo_ [.mv 3 5] [3, 5, 6, 7] [3] 4 [.eqv 12 (ni ((p.rimV.map dV).length : Int)) (ni (p.rim.length : Int)) (by rw [hl]), ye (t := decide ((k : Int) < (p.rim.length : Int))) (decide_eq_true (by omega)), .sel _ _ _ hs, cl (e_put5 h.t h.a (h.r q hm) (by omega)), .app (((plRim p pl).take k).map dV) ([vput pl q].map dV) (((plRim p pl).take (k + 1)).map dV) 2000 hap Nat.zero_lt_one (by rw [List.length_map, List.length_take]; omega), inc 15 k (by omega)] (ih (k + 1) g (by omega)) (by kernel_rfl)
 · have e : k = p.rim.length := by omega
   subst e
   have hX : X p.rim.length = at_ fpd [(3, .ip (dPl pl)), (5, dL p.rimV), (6, .ow 3), (7, ni (p.rim.length : Int))] [.dead, .dead, .dead, .rw 43 8 ((plRim p pl).map dV)] := by simp only [X]; rw [← hq, List.take_length]
   rw [hX]
   exact fi [.eqv 12 (ni ((p.rimV.map dV).length : Int)) (ni (p.rim.length : Int)) (by rw [hl]), na (t := decide ((p.rim.length : Int) < (p.rim.length : Int))) (decide_eq_false (by omega))] (by kernel_rfl) (by kernel_rfl)
end
end Go.Proofs.YtbaggkbleehegaaGreat.E.Ct
namespace Go.Proofs.YtbaggkbleehegaaGreat.E.Ct
open Go.RowKit
set_option linter.unusedVariables false
set_option linter.unusedSimpArgs false
structure To where
 a : Int
 b : Int
 p : Vc
 q : Vc
 n : Vc
 r : Rat
def To.v (t : To) : List V := [ni t.a, ni t.b] ++ (dV t.p ++ (dV t.q ++ (dV t.n ++ dR t.r)))
def toR (l : List To) : List (List V) := l.map To.v
theorem toR_len (l : List To) : (toR l).length = l.length := List.length_map ..
theorem toR_app (l m : List To) : toR l ++ toR m = toR (l ++ m) := by unfold toR; rw [List.map_append]
def one_ : Rat := Rat.divInt 1 1
/-- How wide a segment counts. -/
def wide (x : Vc × Vc) : Rat := if lt0 (x.2.1 - x.1.1) one_ = true then one_ else x.2.1 - x.1.1
def prT (k : Nat) (r : Rat) (x : Vc × Vc) : To := ⟨k, -1, x.1, x.2, (0, wide x), r⟩
/-- A touch, as it is built. -/
def prV (k : Nat) (r : Rat) (x : Vc × Vc) : List V := [ni (k : Int), ni (-1)] ++ (dV x.1 ++ (dV x.2 ++ ([bo false, .sl [], bo false, .sl []] ++ (dR (wide x) ++ dR r))))
theorem prV_eq (k : Nat) (r : Rat) (x : Vc × Vc) : prV k r x = (prT k r x).v := by
 show _ = [ni (k : Int), ni (-1)] ++ (dV x.1 ++ (dV x.2 ++ ((dR 0 ++ dR (wide x)) ++ dR r)))
 unfold prV
 rw [dR_0]
 rfl
structure Sc where
 L : List Pi
 A : List Pl
def Sc.pi (s : Sc) (k : Nat) : Pi := s.L.getD k ⟨0, 0, [], [], [], 0, 0, 0, 0, 0⟩
def Sc.pl (s : Sc) (k : Nat) : Pl := s.A.getD k ((0, 0), (0, 0))
structure Sc.Ok (s : Sc) (b : Nat) : Prop where
 g : ∀ k, k < s.L.length → (s.pi k).Good (s.pl k) b
 n : s.L.length ≤ s.A.length ∧ s.L.length ≤ 100
 k : b ≤ 10000
def piR (l : List Pi) : List (List V) := l.map Pi.v
def plR (l : List Pl) : List (List V) := l.map dPl
/-- The polygon of a piece over a prop. -/
def Sc.su (s : Sc) (P Q : Vc) (k : Nat) : Su := ⟨plRim (s.pi k) (s.pl k), P, Q, (s.pi k).tol⟩
def Sc.pr1 (s : Sc) (st : Int) (P Q : Vc) (k : Nat) : List To := if inB st k = true then (s.su P Q k).segs.map (prT k (s.pi k).rough) else []
def Sc.prs (s : Sc) (st : Int) (P Q : Vc) (k : Nat) : List To := (List.range k).flatMap (s.pr1 st P Q)
section
variable {s : Sc} {b k : Nat} {st : Int} {P Q : Vc}
theorem Sc.prs_succ (s : Sc) (st : Int) (P Q : Vc) (k : Nat) : s.prs st P Q (k + 1) = s.prs st P Q k ++ s.pr1 st P Q k := by unfold Sc.prs; rw [List.range_succ, List.flatMap_append]; simp
theorem Sc.suOk (h : s.Ok b) (hP : Bv b P) (hQ : Bv b Q) (hk : k < s.L.length) : (s.su P Q k).Ok (20 * b + 10) := by
 have g := h.g k hk
 have hkb := h.k
 refine ⟨g.bits, hP.mono (by omega), hQ.mono (by omega), g.ok.tol.mono (by omega), ?_, by omega⟩
 show 0 < (plRim _ _).length ∧ (plRim _ _).length ≤ 1000
 rw [plRim_len]
 exact g.ok.n
theorem Sc.len1 (h : s.Ok b) (hk : k < s.L.length) : (s.su P Q k).segs.length ≤ 200 := by
 have g := h.g k hk
 have h1 := (s.su P Q k).p2_len (s.su P Q k).L.length
 have h2 : (s.su P Q k).L.length = (s.pi k).rim.length := plRim_len _ _
 have h3 := g.n
 show ((s.su P Q k).p2 _).length ≤ 200
 omega
theorem Sc.prs_len (h : s.Ok b) : ∀ k, k ≤ s.L.length → (s.prs st P Q k).length ≤ 200 * k
 | 0, _ => by simp [Sc.prs]
 | k + 1, hk => by
  have h1 := Sc.prs_len h k (by omega)
  have h2 := Sc.len1 (P := P) (Q := Q) h (show k < s.L.length by omega)
  rw [Sc.prs_succ, List.length_append]
  have : (s.pr1 st P Q k).length ≤ 200 := by unfold Sc.pr1; split <;> simp; exact h2
  omega
theorem pi_at (hk : k < s.L.length) : (piR s.L)[k]? = some (s.pi k).v := by unfold piR Sc.pi; rw [List.getElem?_map, List.getD_eq_getElem?_getD, List.getElem?_eq_getElem hk]; rfl
theorem pl_at (hk : k < s.A.length) : (plR s.A)[k]? = some (dPl (s.pl k)) := by unfold plR Sc.pl; rw [List.getElem?_map, List.getD_eq_getElem?_getD, List.getElem?_eq_getElem hk]; rfl
noncomputable abbrev fpp : Func := fnOf PP 25
noncomputable def ppS (s : Sc) (st : Int) (P Q : Vc) (k : Nat) (m1 m2 : List (Nat × V)) : List V := (at_ fpp ([(1, .sl (plR s.A)), (2, ni st), (7, .ip (dV P ++ dV Q)), (9, .lp 1 0)] ++ (m1 ++ ([(15, .sl (piR s.L)), (16, ni (s.L.length : Int)), (17, ni (k : Int))] ++ m2))) []).t
def ppH (l : List To) : List HO := [.dead, .bx 64 [.ow 2], .rw 80 30 (toR l)]
abbrev GP (s : Sc) (st : Int) (P Q : Vc) (td : List Item) (σ : St) : Prop := Gd PP 25 (.o 80 30 (toR (s.prs st P Q s.L.length))) td σ
theorem pp_1 (h : s.Ok b) (hP : Bv b P) (hQ : Bv b Q) (hk : k < s.L.length) (next : GP s st P Q (lp fpp 0) ⟨ppS s st P Q (k + 1) [] [], ppH (s.prs st P Q (k + 1))⟩) : GP s st P Q (lp fpp 0) ⟨ppS s st P Q k [] [], ppH (s.prs st P Q k)⟩ := by
 have hkb := h.k
 have hn := h.n
 have g := h.g k hk
 have so := Sc.suOk h hP hQ hk
 have e1 := pi_at hk
 have e2 := pl_at (s := s) (k := k) (by omega)
 have hpl := Sc.prs_len (st := st) (P := P) (Q := Q) h k (by omega)
 have k0 := bit_0 st k
 have hsu : (s.su P Q k).v = dL (plRim (s.pi k) (s.pl k)) :: (dV P ++ (dV Q ++ dR (s.pi k).tol)) := rfl
 have csg := e_segs (s.su P Q k)
 have its := it_segs so
 have cr := e_rim g.ok
 have cm := e_move g.t g.a g.r (by have := g.n; unfold Pi.rimV; rw [List.length_map]; omega) (by omega)
 have hsl : (s.su P Q k).L.length ≤ 100 := by show (plRim _ _).length ≤ 100; rw [plRim_len]; exact g.n
 rw [s.prs_succ] at next
 unfold Sc.pr1 at next
 generalize hsuE : s.su P Q k = su at *
 rw [hsu] at csg its
 cases hin : inB st k with
 | false =>
  rw [hin, if_neg (by simp), List.append_nil] at next
  rw [hin] at k0
  exact .to mo_ [] [1, 2, 7, 9, 15, 16, 17] [1, 2] 3 [ye (t := decide ((k : Int) < (s.L.length : Int))) (decide_eq_true (by omega)), .sel _ _ _ e1, ye (t := bitV st k == 0) k0, inc 66 k (by omega)] next (by kernel_rfl)
 | true =>
  rw [hin, if_pos rfl] at next
  rw [hin] at k0
  let sv : List V := dL (plRim (s.pi k) (s.pl k)) :: (dV P ++ (dV Q ++ dR (s.pi k).tol))
  refine .to mo_ [.fz 10, .fz 11, .fz 38] [1, 2, 7, 9, 10, 11, 15, 16, 17, 38] [1, 2] 3 [ye (t := decide ((k : Int) < (s.L.length : Int))) (decide_eq_true (by omega)), .sel _ _ _ e1, na (t := bitV st k == 0) k0, .sel _ _ _ e2, cl cr, cl cm, cl csg] (td' := rfI fpp) (σ' := ⟨ppS s st P Q k [(10, .ip [ni (k : Int)]), (11, .ip (s.pi k).v)] [(38, .cl 131 [.ip sv])], ppH (s.prs st P Q k)⟩) ?_ (by kernel_rfl)
  refine Gd.rangeD mo_ (fn_of (f := 25) (by kernel_rfl)).1 (k := (rf fpp).2.2.2.2) (σ := ⟨ppS s st P Q k [(10, .ip [ni (k : Int)]), (11, .ip (s.pi k).v)] [(38, .cl 131 [.ip sv])], _⟩) (gf := 131) (caps := [.ip sv]) (by kernel_rfl) its (fun x => by kernel_rfl) (fun b => Nat.beq b 2) (by kernel_rfl)
   (fun pre => ppH (s.prs st P Q k ++ pre.map (prT k (s.pi k).rough))) (by show ppH (_ ++ []) = _; rw [List.append_nil]) (fun pre => ⟨rfl, fun b => ?_⟩) (fun x => ppS s st P Q k [(10, .ip [ni (k : Int)]), (11, .ip (s.pi k).v), (12, .ip (sgV x))] [(38, .cl 131 [.ip sv]), (39, .ag (sgV x))]) (fun pre x => .of [.fz 12] [1, 2, 7, 9, 10, 11, 12, 15, 16, 17, 38, 39] [1, 2] [] (by kernel_rfl)) (fun _ => True) trivial (fun pre x hlt _ => ⟨trivial, ?_⟩) (fun xs hS _ => ?_)
  · match b with
    | 0 | 1 | 2 => rfl
    | b + 3 => rfl
  · obtain ⟨hl, bx1, bx2⟩ := hlt
    have hl2 : pre.length < 200 := by omega
    have c1 := e_rsub bx2.1 bx1.1 (by omega)
    have c2 := e_rof (x := 1) (y := 1) is1_ is1_
    have c3 := e_rcmp (bx2.1.sub bx1.1) (Bq.divInt (k := 1) (p := 1) (q := 1) (by unfold I.Bd; decide) (by unfold I.Bd; decide) (by decide)) (by omega)
    have hap : toR (s.prs st P Q k ++ pre.map (prT k (s.pi k).rough)) ++ [prV k (s.pi k).rough x] = toR (s.prs st P Q k ++ (pre ++ [x]).map (prT k (s.pi k).rough)) := by
     rw [List.map_append, ← List.append_assoc, prV_eq]
     exact toR_app (s.prs st P Q k ++ pre.map (prT k (s.pi k).rough)) [prT k (s.pi k).rough x]
    have hle : (toR (s.prs st P Q k ++ (pre ++ [x]).map (prT k (s.pi k).rough))).length ≤ 1000000 := by rw [toR_len]; simp; omega
    unfold prV wide at hap
    generalize (s.pi k).rough = rg at *
    cases hw : lt0 (x.2.1 - x.1.1) one_ with
    | true =>
     rw [hw, if_pos rfl] at hap
     exact RnM.ofH [.mv 2 6] [] [1, 2] [cl c1, cl c2, cl c3, ye (t := lt0 (x.2.1 - x.1.1) one_) hw, .app _ _ _ 1000000 hap Nat.zero_lt_one hle] (by kernel_rfl)
    | false =>
     rw [hw, if_neg (by simp)] at hap
     exact RnM.ofH [.mv 2 6] [] [1, 2] [cl c1, cl c2, cl c3, na (t := lt0 (x.2.1 - x.1.1) one_) hw, .app _ _ _ 1000000 hap Nat.zero_lt_one hle] (by kernel_rfl)
  · subst hS
    exact .to mo_ [] [1, 2, 7, 9, 15, 16, 17] [1, 2] 3 [inc 66 k (by omega)] next (by kernel_rfl)
theorem e_props (h : s.Ok b) (hP : Bv b P) (hQ : Bv b Q) : Pure PP 25 [.sl (piR s.L), .sl (plR s.A), ni st, .ag (dV P ++ dV Q)] (.o 80 30 (toR (s.prs st P Q s.L.length))) := by
 have hn := h.n
 have hl : (piR s.L).length = s.L.length := List.length_map ..
 refine pf (by kernel_rfl) (.to mo_ [.oc 1 0 (.rw 80 30 []), .fz 7] [1, 2, 7, 9, 15, 16, 17] [1, 2] 3 [.eqv 16 (ni ((piR s.L).length : Int)) (ni (s.L.length : Int)) (by rw [hl])] (td' := lp fpp 0) (σ' := ⟨ppS s st P Q 0 [] [], ppH (s.prs st P Q 0)⟩) ?_ (by kernel_rfl))
 refine Gd.loop (fun (k : Nat) => (⟨ppS s st P Q k [] [], ppH (s.prs st P Q k)⟩ : St)) (fun k => k ≤ s.L.length) (fun k => s.L.length - k) ?_ 0 (Nat.zero_le _)
 intro k hk ih
 by_cases g : k < s.L.length
 · exact pp_1 h hP hQ g (ih (k + 1) g (by omega))
 · have e : k = s.L.length := by omega
   subst e
   exact fi [na (t := decide ((s.L.length : Int) < (s.L.length : Int))) (decide_eq_false (by omega))] (by kernel_rfl) (by kernel_rfl)
end
end Go.Proofs.YtbaggkbleehegaaGreat.E.Ct
namespace Go.Proofs.YtbaggkbleehegaaGreat.E.Ct
open Go.RowKit
set_option linter.unusedVariables false
set_option linter.unusedSimpArgs false
section
variable {s : Sc} {b k : Nat} {st : Int} {P Q : Vc}
noncomputable abbrev fp6 : Func := fnOf PP 26
noncomputable def p6 (s : Sc) (st : Int) (P Q : Vc) (k : Nat) (l : List To) (m : List (Nat × V)) : St := at_ fp6 ([(0, .sl (piR s.L)), (1, .sl (plR s.A)), (2, ni st), (7, .ip (dV P ++ dV Q)), (9, .ow 1), (10, ni (k : Int))] ++ m) [.dead, .rw 80 30 (toR l)]
abbrev GP6 (s : Sc) (st : Int) (P Q : Vc) (td : List Item) (σ : St) : Prop := Gd PP 26 (.o 80 30 (toR (s.prs st P Q s.L.length))) td σ
theorem seg_at {l : List (Vc × Vc)} {x : Vc × Vc} {i : Nat} (h : l[i]? = some x) : (sgR l)[i]? = some (sgV x) := by unfold sgR; rw [List.getElem?_map, h]; rfl
theorem Su.seg_bits {s : Su} (h : s.Ok b) : ∀ x ∈ s.segs, Bv b x.1 ∧ Bv b x.2 := fun x hx => by
 unfold Su.segs Su.p2 Su.p1 at hx
 rcases List.mem_append.1 hx with hx | hx
 · obtain ⟨i, hi, hx⟩ := List.mem_flatMap.1 hx
   have a0 := h.at_ (List.mem_range.1 hi)
   have a1 := h.at_ (s.nx_lt h i)
   unfold Su.sg1 at hx
   split at hx
   · simp only [List.mem_singleton] at hx
     subst hx
     exact ⟨⟨by unfold Su.from_; split; exact h.p.1; exact a0.1, h.p.2⟩, by unfold Su.to_; split; exact h.q.1; exact a1.1, h.p.2⟩
   · cases hx
 · obtain ⟨i, hi, hx⟩ := List.mem_flatMap.1 hx
   have a0 := h.at_ (List.mem_range.1 hi)
   unfold Su.sg2 at hx
   split at hx
   · simp only [List.mem_singleton] at hx
     subst hx
     exact ⟨⟨a0.1, h.p.2⟩, a0.1, h.p.2⟩
   · cases hx
theorem p6_in (h : s.Ok b) (hP : Bv b P) (hQ : Bv b Q) (hk : k < s.L.length) (T : List To) (hT : T.length ≤ 200 * k) (next : GP6 s st P Q (lp fp6 0) (p6 s st P Q (k + 1) (T ++ (s.su P Q k).segs.map (prT k (s.pi k).rough)) [])) : GP6 s st P Q (lp fp6 1) (p6 s st P Q k (T ++ ((s.su P Q k).segs.take 0).map (prT k (s.pi k).rough)) [(11, .sl (sgR (s.su P Q k).segs)), (12, ni ((0 : Nat) : Int))]) := by
 have hkb := h.k
 have hn := h.n
 have so := Sc.suOk h hP hQ hk
 have e1 := pi_at hk
 have hsb := Su.seg_bits so
 have hsl := Sc.len1 (P := P) (Q := Q) h hk
 generalize (s.su P Q k).segs = S at *
 have hl : (sgR S).length = S.length := sgR_len S
 refine Gd.loop (fun (i : Nat) => p6 s st P Q k (T ++ (S.take i).map (prT k (s.pi k).rough)) [(11, .sl (sgR S)), (12, ni (i : Int))]) (fun i => i ≤ S.length) (fun i => S.length - i) ?_ 0 (Nat.zero_le _)
 intro i hi ih
 by_cases g : i < S.length
 · have nx := ih (i + 1) g (by omega)
   obtain ⟨x, hx, hm⟩ := get_of g
   obtain ⟨bx1, bx2⟩ := hsb x hm
   have es := seg_at hx
   have c1 := e_sub4 bx2.1 bx1.1 (by omega)
   have c2 := e_of4 (x := 1) (y := 1) is1_ is1_
   have c3 := e_cmp4 (bx2.1.sub bx1.1) (Bq.divInt (k := 1) (p := 1) (q := 1) (by unfold I.Bd; decide) (by unfold I.Bd; decide) (by decide)) (by omega)
   have hap : toR (T ++ (S.take i).map (prT k (s.pi k).rough)) ++ [prV k (s.pi k).rough x] = toR (T ++ (S.take (i + 1)).map (prT k (s.pi k).rough)) := by
    rw [List.take_add_one, hx, List.map_append, ← List.append_assoc, prV_eq]
    exact toR_app (T ++ (S.take i).map (prT k (s.pi k).rough)) [prT k (s.pi k).rough x]
   have hle : (toR (T ++ (S.take (i + 1)).map (prT k (s.pi k).rough))).length ≤ 1000000 := by rw [toR_len]; simp; omega
   generalize hT2 : toR (T ++ (S.take (i + 1)).map (prT k (s.pi k).rough)) = T2 at hap hle
   unfold p6 at nx
   rw [hT2] at nx
   unfold prV wide at hap
   let F : List F_ := [.eqv 42 (ni ((sgR S).length : Int)) (ni (S.length : Int)) (by rw [hl]), ye (t := decide ((i : Int) < (S.length : Int))) (decide_eq_true (by omega)), .sel _ _ _ es, .sel _ _ _ es, cl c1, cl c2, cl c3]
   cases hw : lt0 (x.2.1 - x.1.1) one_ with
   | true =>
    rw [hw, if_pos rfl] at hap
    exact .to mo_ [.mv 1 4] [0, 1, 2, 7, 9, 10, 11, 12] [1] 2 (F ++ [ye (t := lt0 (x.2.1 - x.1.1) one_) hw, cl c2, .sel _ _ _ es, .sel _ _ _ es, .sel _ _ _ e1, .app _ _ _ 1000000 hap Nat.zero_lt_one hle, inc 45 i (by omega)]) nx (by kernel_rfl)
   | false =>
    rw [hw, if_neg (by simp)] at hap
    exact .to mo_ [.mv 1 4] [0, 1, 2, 7, 9, 10, 11, 12] [1] 2 (F ++ [na (t := lt0 (x.2.1 - x.1.1) one_) hw, .sel _ _ _ es, .sel _ _ _ es, .sel _ _ _ e1, .app _ _ _ 1000000 hap Nat.zero_lt_one hle, inc 45 i (by omega)]) nx (by kernel_rfl)
 · have e : i = S.length := by omega
   subst e
   have ht : (S.take S.length).map (prT k (s.pi k).rough) = S.map (prT k (s.pi k).rough) := by rw [List.take_length]
   simp only [ht]
   exact .to mo_ [] [0, 1, 2, 7, 9, 10] [1] 2 [.eqv 42 (ni ((sgR S).length : Int)) (ni (S.length : Int)) (by rw [hl]), na (t := decide ((S.length : Int) < (S.length : Int))) (decide_eq_false (by omega)), inc 19 k (by omega)] next (by kernel_rfl)
theorem p6_1 (h : s.Ok b) (hP : Bv b P) (hQ : Bv b Q) (hk : k < s.L.length) (next : GP6 s st P Q (lp fp6 0) (p6 s st P Q (k + 1) (s.prs st P Q (k + 1)) [])) : GP6 s st P Q (lp fp6 0) (p6 s st P Q k (s.prs st P Q k) []) := by
 have hkb := h.k
 have hn := h.n
 have hl : (piR s.L).length = s.L.length := List.length_map ..
 have g := h.g k hk
 have so := Sc.suOk h hP hQ hk
 have e1 := pi_at hk
 have e2 := pl_at (s := s) (k := k) (by omega)
 have hpl := Sc.prs_len (st := st) (P := P) (Q := Q) h k (by omega)
 have ci := e_in st k
 have cp := e_placed g
 have co := e_on6 so
 have inn := fun nx => p6_in (st := st) h hP hQ hk (s.prs st P Q k) hpl nx
 have hz : s.prs st P Q k ++ ((s.su P Q k).segs.take 0).map (prT k (s.pi k).rough) = s.prs st P Q k := by rw [List.take_zero]; exact List.append_nil _
 rw [hz] at inn
 rw [s.prs_succ] at next
 unfold Sc.pr1 at next
 let F : List F_ := [.eqv 16 (ni ((piR s.L).length : Int)) (ni (s.L.length : Int)) (by rw [hl]), ye (t := decide ((k : Int) < (s.L.length : Int))) (decide_eq_true (by omega))]
 cases hin : inB st k with
 | false =>
  rw [hin, if_neg (by simp), List.append_nil] at next
  rw [hin] at ci
  exact .to mo_ [] [0, 1, 2, 7, 9, 10] [1] 2 (F ++ [cl ci, yt, inc 19 k (by omega)]) next (by kernel_rfl)
 | true =>
  rw [hin, if_pos rfl] at next
  rw [hin] at ci
  exact .to mo_ [.fz 11] [0, 1, 2, 7, 9, 10, 11, 12] [1] 2 (F ++ [cl ci, nf, .sel _ _ _ e1, .sel _ _ _ e2, cl cp, .sel _ _ _ e1, cl co]) (inn next) (by kernel_rfl)
theorem e_props6 (h : s.Ok b) (hP : Bv b P) (hQ : Bv b Q) : Pure PP 26 [.sl (piR s.L), .sl (plR s.A), ni st, .ag (dV P ++ dV Q)] (.o 80 30 (toR (s.prs st P Q s.L.length))) := by
 have hn := h.n
 have hl : (piR s.L).length = s.L.length := List.length_map ..
 refine pf (by kernel_rfl) (.to mo_ [.ow 9 (.rw 80 30 []), .fz 7] [0, 1, 2, 7, 9, 10] [1] 2 [] (td' := lp fp6 0) (σ' := p6 s st P Q 0 (s.prs st P Q 0) []) ?_ (by kernel_rfl))
 refine Gd.loop (fun (k : Nat) => p6 s st P Q k (s.prs st P Q k) []) (fun k => k ≤ s.L.length) (fun k => s.L.length - k) ?_ 0 (Nat.zero_le _)
 intro k hk ih
 by_cases g : k < s.L.length
 · exact p6_1 h hP hQ g (ih (k + 1) g (by omega))
 · have e : k = s.L.length := by omega
   subst e
   exact fi [.eqv 16 (ni ((piR s.L).length : Int)) (ni (s.L.length : Int)) (by rw [hl]), na (t := decide ((s.L.length : Int) < (s.L.length : Int))) (decide_eq_false (by omega))] (by kernel_rfl) (by kernel_rfl)
end
end Go.Proofs.YtbaggkbleehegaaGreat.E.Ct
namespace Go.Proofs.YtbaggkbleehegaaGreat.E.Ct
open Go.RowKit
set_option linter.unusedVariables false
set_option linter.unusedSimpArgs false
section
variable {l : List To} {i : Nat} {t : To}
theorem vsame (v : Vc) : Pure PP 18 [.ag (dV v), .ag (dV v)] (bo true) := by
 have h := e_vsame5 v v
 rwa [decide_eq_true rfl] at h
theorem rsame (r : Rat) : Pure PP 72 [.ag (dR r), .ag (dR r)] (bo true) := by
 have h := e_same4 r r
 rwa [decide_eq_true rfl] at h
theorem e_stouch (t : To) : Pure PP 37 [.ag t.v, .ag t.v] (bo true) :=
 tr [ye (t := t.a == t.a) (by simp), ye (t := t.b == t.b) (by simp), cl (vsame t.p), yt, cl (vsame t.q), yt, cl (vsame t.n), yt, cl (rsame t.r)] (by kernel_rfl)
theorem to_at (h : l[i]? = some t) : (toR l)[i]? = some t.v := by unfold toR; rw [List.getElem?_map, h]; rfl
noncomputable abbrev fst_ : Func := fnOf PP 22
theorem e_stouches (l : List To) (hn : l.length ≤ 1000000) : Pure PP 22 [.sl (toR l), .sl (toR l)] (bo true) := by
 have hl := toR_len l
 let X : Nat → St := fun i => at_ fst_ [(0, .sl (toR l)), (1, .sl (toR l)), (5, ni (i : Int))] []
 refine pf (by kernel_rfl) (.to mo_ [] [0, 1, 5] [] 0 [na (t := ((toR l).length : Int) != ((toR l).length : Int)) (by simp)] (td' := lp fst_ 0) (σ' := X 0) ?_ (by kernel_rfl))
 refine Gd.loop X (fun i => i ≤ l.length) (fun i => l.length - i) ?_ 0 (Nat.zero_le _)
 intro i hi ih
 by_cases g : i < l.length
 · obtain ⟨t, ht, _⟩ := get_of g
   have et := to_at ht
   exact .to mo_ [] [0, 1, 5] [] 0 [ye (t := decide ((i : Int) < ((toR l).length : Int))) (decide_eq_true (by omega)), .sel _ _ _ et, .sel _ _ _ et, cl (e_stouch t), nf, inc 16 i (by omega)] (ih (i + 1) g (by omega)) (by kernel_rfl)
 · exact fi [na (t := decide ((i : Int) < ((toR l).length : Int))) (decide_eq_false (by omega))] (by kernel_rfl) (by kernel_rfl)
end
end Go.Proofs.YtbaggkbleehegaaGreat.E.Ct
namespace Go.Proofs.YtbaggkbleehegaaGreat.E.Ct
open Go.RowKit
set_option linter.unusedVariables false
set_option linter.unusedSimpArgs false
def ownA (own : List Int) (x : Int) : Int := own.getD x.toNat 0
def btV (own : List Int) (t : To) : Option To := if ownA own t.a < 0 then none else if t.b ≥ 0 then (if ownA own t.b < 0 ∨ ownA own t.a = ownA own t.b then none else some { t with a := ownA own t.a, b := ownA own t.b }) else some { t with a := ownA own t.a }
def btw (own : List Int) (l : List To) : List To := l.filterMap (btV own)
/-- A touch of pieces that have owners. -/
def BtOk (own : List Int) (t : To) : Prop := (∃ n : Nat, t.a = (n : Int) ∧ n < own.length) ∧ (t.b = -1 ∨ ∃ n : Nat, t.b = (n : Int) ∧ n < own.length)
section
variable {own : List Int} {l : List To} {i : Nat} {t : To}
theorem btw_succ (h : l[i]? = some t) : btw own (l.take (i + 1)) = btw own (l.take i) ++ (btV own t).toList := by
 unfold btw
 rw [List.take_add_one, h, List.filterMap_append]
 cases e : btV own t <;> simp [e]
theorem own_at {n : Nat} (h : n < own.length) : (zs own)[n]? = some [ni (ownA own (n : Int))] := zs_at (by unfold ownA; rw [Int.toNat_natCast, List.getD_eq_getElem?_getD, List.getElem?_eq_getElem h]; rfl)
theorem btw_len (l : List To) : (btw own l).length ≤ l.length := List.length_filterMap_le ..
noncomputable abbrev fbw : Func := fnOf PP 31
noncomputable abbrev fbw6 : Func := fnOf PP 32
noncomputable def bwS (own : List Int) (l : List To) (r : List To) (i : Nat) : St := at_ fbw [(1, zl own), (5, .ow 0), (10, .sl (toR l)), (11, ni ((toR l).length : Int)), (12, ni (i : Int))] [.rw 80 30 (toR r)]
noncomputable def bw6 (own : List Int) (l : List To) (r : List To) (i : Nat) : St := at_ fbw6 [(0, .sl (toR l)), (1, zl own), (5, .ow 0), (6, ni (i : Int))] [.rw 80 30 (toR r)]
theorem e_between (hl : l.length ≤ 100000) (hb : ∀ t ∈ l, BtOk own t) : Pure PP 31 [.sl (toR l), zl own] (.o 80 30 (toR (btw own l))) := by
 have hlen := toR_len l
 refine pf (by kernel_rfl) (.to mo_ [.ow 5 (.rw 80 30 [])] [1, 5, 10, 11, 12] [0] 1 [] (td' := lp fbw 0) (σ' := bwS own l (btw own (l.take 0)) 0) ?_ (by kernel_rfl))
 refine Gd.loop (fun (i : Nat) => bwS own l (btw own (l.take i)) i) (fun i => i ≤ l.length) (fun i => l.length - i) ?_ 0 (Nat.zero_le _)
 intro i hi ih
 by_cases g : i < l.length
 · obtain ⟨t, ht, hm⟩ := get_of g
   have nx := ih (i + 1) g (by omega)
   have et := to_at ht
   obtain ⟨⟨na_, ha, han⟩, hbt⟩ := hb t hm
   obtain ⟨a, b, p, q, n, r⟩ := t
   simp only at ha hbt
   subst ha
   have ea := own_at han
   have hs := btw_succ (own := own) ht
   have hle := btw_len (own := own) (l.take (i + 1))
   rw [List.length_take] at hle
   let F : List F_ := [ye (t := decide ((i : Int) < ((toR l).length : Int))) (decide_eq_true (by omega)), .sel _ _ _ et, .sel _ _ _ ea]
   have hA : ∀ {x : Option To}, btV own ⟨(na_ : Int), b, p, q, n, r⟩ = x → btw own (l.take (i + 1)) = btw own (l.take i) ++ x.toList := fun h => by rw [hs, h]
   rcases hbt with rfl | ⟨nb, rfl, hbn⟩
   · have hv : btV own ⟨(na_ : Int), -1, p, q, n, r⟩ = if ownA own (na_ : Int) < 0 then none else some ⟨ownA own (na_ : Int), -1, p, q, n, r⟩ := rfl
     generalize ownA own (na_ : Int) = A at *
     by_cases h0 : A < 0
     · have := hA (hv.trans (if_pos h0))
       rw [this] at nx
       simp only [Option.toList_none, List.append_nil] at nx
       exact .to mo_ [] [1, 5, 10, 11, 12] [0] 1 (F ++ [nf, ye (t := decide (A < 0)) (decide_eq_true h0), yt, inc 53 i (by omega)]) nx (by kernel_rfl)
     · have hx := hA (hv.trans (if_neg h0))
       have hap : toR (btw own (l.take i)) ++ [(⟨A, -1, p, q, n, r⟩ : To).v] = toR (btw own (l.take (i + 1))) := by rw [hx]; exact toR_app _ [_]
       exact .to mo_ [.mv 0 3] [1, 5, 10, 11, 12] [0] 1 (F ++ [nf, na (t := decide (A < 0)) (decide_eq_false h0), nf, nf, .app _ _ _ 200000 hap Nat.zero_lt_one (by rw [toR_len]; omega), inc 53 i (by omega)]) nx (by kernel_rfl)
   · have eb := own_at hbn
     have hv : btV own ⟨(na_ : Int), (nb : Int), p, q, n, r⟩ = if ownA own (na_ : Int) < 0 then none else if (nb : Int) ≥ 0 then (if ownA own (nb : Int) < 0 ∨ ownA own (na_ : Int) = ownA own (nb : Int) then none else some ⟨ownA own (na_ : Int), ownA own (nb : Int), p, q, n, r⟩) else some ⟨ownA own (na_ : Int), (nb : Int), p, q, n, r⟩ := rfl
     rw [if_pos (show (nb : Int) ≥ 0 by omega)] at hv
     generalize ownA own (na_ : Int) = A at *
     generalize ownA own (nb : Int) = B at *
     let G : List F_ := F ++ [ye (t := decide ((nb : Int) ≥ 0)) (decide_eq_true (by omega)), .sel _ _ _ eb]
     by_cases h0 : A < 0
     · have := hA (hv.trans (if_pos h0))
       rw [this] at nx
       simp only [Option.toList_none, List.append_nil] at nx
       exact .to mo_ [] [1, 5, 10, 11, 12] [0] 1 (G ++ [ye (t := decide (A < 0)) (decide_eq_true h0), yt, inc 53 i (by omega)]) nx (by kernel_rfl)
     · rw [if_neg h0] at hv
       let K : List F_ := G ++ [na (t := decide (A < 0)) (decide_eq_false h0), ye (t := decide ((nb : Int) ≥ 0)) (decide_eq_true (by omega))]
       by_cases h1 : B < 0
       · have := hA (hv.trans (if_pos (.inl h1)))
         rw [this] at nx
         simp only [Option.toList_none, List.append_nil] at nx
         exact .to mo_ [] [1, 5, 10, 11, 12] [0] 1 (K ++ [ye (t := decide (B < 0)) (decide_eq_true h1), yt, inc 53 i (by omega)]) nx (by kernel_rfl)
       · by_cases h2 : A = B
         · have := hA (hv.trans (if_pos (.inr h2)))
           rw [this] at nx
           simp only [Option.toList_none, List.append_nil] at nx
           exact .to mo_ [] [1, 5, 10, 11, 12] [0] 1 (K ++ [na (t := decide (B < 0)) (decide_eq_false h1), ye (t := A == B) (by simpa using h2), inc 53 i (by omega)]) nx (by kernel_rfl)
         · have hx := hA (hv.trans (if_neg (by omega)))
           have hap : toR (btw own (l.take i)) ++ [(⟨A, B, p, q, n, r⟩ : To).v] = toR (btw own (l.take (i + 1))) := by rw [hx]; exact toR_app _ [_]
           exact .to mo_ [.mv 0 3] [1, 5, 10, 11, 12] [0] 1 (K ++ [na (t := decide (B < 0)) (decide_eq_false h1), na (t := A == B) (by simpa using h2), .app _ _ _ 200000 hap Nat.zero_lt_one (by rw [toR_len]; omega), inc 53 i (by omega)]) nx (by kernel_rfl)
 · have e : i = l.length := by omega
   subst e
   rw [List.take_length]
   exact fi [na (t := decide ((l.length : Int) < ((toR l).length : Int))) (decide_eq_false (by omega))] (by kernel_rfl) (by kernel_rfl)
end
end Go.Proofs.YtbaggkbleehegaaGreat.E.Ct
