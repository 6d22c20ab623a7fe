/-
 THROWS, by the engine: calls that panic; a deferred closure that recovers.
-/
import Derived.Test.YtlgnagnmoleeiaaGreatEzD
import Derived.Test.YtlgnagnmoleeiaaGreatRef3C
namespace Go.Proofs.YtlgnagnmoleeiaaGreat.E.Pc
open Go.RowKit
set_option linter.unusedVariables false
set_option linter.unusedSimpArgs false
noncomputable abbrev fDc : Func := fnOf PP 18
/-- What is being read: the piece. -/
def pcB (id home : Int) (m : V) (q : List V) : HO := .bx 30 ([ni id, ni home, .ow 4, .ow 5, m] ++ q)
def zer4 : List V := [bo false, .nl, bo false, .nl]
def z20 : List V := zer4 ++ (zer4 ++ (zer4 ++ (zer4 ++ zer4)))
noncomputable abbrev GDc (vr : V) (td : List Item) (σ : St) : Prop := Gd PP 18 (.df (2 + 1) (dfr 82 [0, 1, 2]) vr) td σ
noncomputable def dcS (B : List UInt8) (id home : Int) (P : List (Int × Int)) (ws : List Bool) (n : Nat) (m : List (Nat × V)) : St := at_ fDc ([(2, .lp 0 0), (3, .lp 1 0), (4, .lp 2 0), (5, .lp 3 0)] ++ m) ([pcB id home .nl z20, .bx 3 [ni 0], .bx 35 [ni 0]] ++ (rdO B n ++ [.rw 93 2 (Ct.ptR P), .rw 4 1 (Ct.wnR ws)]))
section
variable {B : List UInt8} {p : Ct.Pi} {n k N : Nat} {A : List Int} {r : Rat} {i : Nat} {id home : Int} {P : List (Int × Int)} {ws : List Bool} {Wl Wr : List Int} {vr : V}
theorem crn_at (h : i < P.length) : (zs (crn P))[2 * i]? = some [ni (cpt P i).1] ∧ (zs (crn P))[2 * i + 1]? = some [ni (cpt P i).2] := by
 have key : ∀ (P : List (Int × Int)) (i : Nat), i < P.length → (crn P)[2 * i]? = some (cpt P i).1 ∧ (crn P)[2 * i + 1]? = some (cpt P i).2 := by
  intro P
  induction P with
  | nil => intro i h; cases h
  | cons c P ih =>
   intro i h
   have e : crn (c :: P) = c.1 :: c.2 :: crn P := rfl
   rw [e]
   cases i with
   | zero => exact ⟨rfl, rfl⟩
   | succ i =>
     obtain ⟨h1, h2⟩ := ih i (by simpa using h)
     rw [show 2 * (i + 1) = 2 * i + 1 + 1 by omega]
     exact ⟨h1, h2⟩
 obtain ⟨h1, h2⟩ := key P i h
 exact ⟨zs_at h1, zs_at h2⟩
theorem ptR_next (h : i < P.length) : Ct.ptR (P.take i) ++ [[ni (cpt P i).1, ni (cpt P i).2]] = Ct.ptR (P.take (i + 1)) := by
 unfold Ct.ptR cpt
 rw [List.take_add_one, List.getD_eq_getElem?_getD, List.getElem?_eq_getElem h, List.map_append]
 rfl
theorem wnR_next {w : Bool} (h : ws[i]? = some w) : Ct.wnR (ws.take i) ++ [[bo w]] = Ct.wnR (ws.take (i + 1)) := by
 unfold Ct.wnR
 rw [List.take_add_one, h, List.map_append]
 rfl
theorem wnI_at {w : Bool} (h : ws[i]? = some w) : (zs (wnI ws ++ Wr))[i]? = some [ni (if w then 1 else 0)] := zs_at (by
 have hi : i < ws.length := (List.getElem?_eq_some_iff.1 h).1
 rw [List.getElem?_append_left (by rw [wnI_len]; exact hi)]
 unfold wnI
 rw [List.getElem?_map, h]
 rfl)
/-- The corners. -/
theorem dc_rim (nr : P.length ≤ 4000) (next : GDc vr (lp fDc 1) (dcS B id home P [] n [(62, zl Wl), (63, ni (Wl.length : Int)), (64, ni ((0 : Nat) : Int))])) : GDc vr (lp fDc 0) (dcS B id home [] [] n [(7, zl (crn P)), (8, zl Wl), (9, ni ((2 * 0 : Nat) : Int))]) := by
 have hcl := crn_len P
 refine Gd.loop (fun i => dcS B id home (P.take i) [] n [(7, zl (crn P)), (8, zl Wl), (9, ni ((2 * i : Nat) : Int))]) (fun i => i ≤ P.length) (fun i => P.length - i) ?_ 0 (Nat.zero_le _)
 intro i hi ih
 have hzl : (zs (crn P)).length = 2 * P.length := by rw [zs_len, hcl]
 by_cases g : i < P.length
 · obtain ⟨e1, e2⟩ := crn_at g
   have nx := ih (i + 1) g (by omega)
   have hap := ptR_next g
   have hl : (Ct.ptR (P.take (i + 1))).length ≤ 4000 := by
    have : (Ct.ptR (P.take (i + 1))).length = (P.take (i + 1)).length := List.length_map ..
    rw [this, List.length_take]
    omega
   have hx : decide (((2 * i : Nat) : Int) < ((2 * P.length : Nat) : Int)) = true := decide_eq_true (by omega)
   unfold dcS at nx ⊢
   unfold pcB rdO at nx ⊢
   generalize Ct.ptR (P.take i) = A at *
   generalize Ct.ptR (P.take (i + 1)) = A' at *
   generalize cpt P i = c at *
   exact .to mo_ [.mv 4 7] [2, 3, 4, 5, 7, 8, 9] [0, 1, 2, 3, 4, 5] 6 [.eqv 43 (ni ((zs (crn P)).length : Int)) (ni ((2 * P.length : Nat) : Int)) (by rw [hzl]), ye hx, .sel _ _ _ e1, inc 55 (2 * i) (by omega), .sel _ _ _ e2, .app A [[ni c.1, ni c.2]] A' 4000 hap (show 0 < 1 by decide) hl, wq 46 (((2 * i : Nat) : Int) + 2) ((2 * (i + 1) : Nat) : Int) (by omega)] nx (by kernel_rfl)
 · have e : i = P.length := by omega
   subst e
   have hx : decide (((2 * P.length : Nat) : Int) < ((2 * P.length : Nat) : Int)) = false := decide_eq_false (by omega)
   rw [List.take_length]
   unfold dcS at next ⊢
   unfold pcB rdO at next ⊢
   exact .to mo_ [] [2, 3, 4, 5, 62, 63, 64] [0, 1, 2, 3, 4, 5] 6 [.eqv 43 (ni ((zs (crn P)).length : Int)) (ni ((2 * P.length : Nat) : Int)) (by rw [hzl]), na hx, .eqv 63 (ni ((zs Wl).length : Int)) (ni (Wl.length : Int)) (by rw [zs_len])] next (by kernel_rfl)
/-- The worn edges, so far as they are ones. -/
theorem dc_worn (nw : ws.length ≤ 4000) {N : Nat} (hN : N = (wnI ws ++ Wr).length) (next : GDc vr (lp fDc 1) (dcS B id home P ws n [(62, zl (wnI ws ++ Wr)), (63, ni (N : Int)), (64, ni (ws.length : Int))])) : GDc vr (lp fDc 1) (dcS B id home P [] n [(62, zl (wnI ws ++ Wr)), (63, ni (N : Int)), (64, ni ((0 : Nat) : Int))]) := by
 have hN' : ws.length ≤ N := by rw [hN, List.length_append, wnI_len]; omega
 clear hN
 refine Gd.loop (fun j => dcS B id home P (ws.take j) n [(62, zl (wnI ws ++ Wr)), (63, ni (N : Int)), (64, ni (j : Int))]) (fun j => j ≤ ws.length) (fun j => ws.length - j) ?_ 0 (Nat.zero_le _)
 intro j hj ih
 by_cases g : j < ws.length
 · obtain ⟨w, hw, _⟩ := Ct.get_of g
   have e1 := wnI_at (Wr := Wr) hw
   have nx := ih (j + 1) g (by omega)
   have hap := wnR_next hw
   have hl : (Ct.wnR (ws.take (j + 1))).length ≤ 4000 := by
    have : (Ct.wnR (ws.take (j + 1))).length = (ws.take (j + 1)).length := List.length_map ..
    rw [this, List.length_take]
    omega
   have hx : decide ((j : Int) < (N : Int)) = true := decide_eq_true (by omega)
   unfold dcS at nx ⊢
   unfold pcB rdO at nx ⊢
   generalize Ct.ptR P = D at *
   generalize Ct.wnR (ws.take j) = A at *
   generalize Ct.wnR (ws.take (j + 1)) = A' at *
   generalize wnI ws ++ Wr = WL at *
   cases w with
   | true => exact .to mo_ [.mv 5 7] [2, 3, 4, 5, 62, 63, 64] [0, 1, 2, 3, 4, 5] 6 [ye hx, .sel _ _ _ e1, nf, cl (e_must [.sl (byL B), ni (n : Int)]), .app A [[bo true]] A' 4000 hap (show 0 < 1 by decide) hl, inc 83 j (by omega)] nx (by kernel_rfl)
   | false => exact .to mo_ [.mv 5 7] [2, 3, 4, 5, 62, 63, 64] [0, 1, 2, 3, 4, 5] 6 [ye hx, .sel _ _ _ e1, yt, cl (e_must [.sl (byL B), ni (n : Int)]), .app A [[bo false]] A' 4000 hap (show 0 < 1 by decide) hl, inc 83 j (by omega)] nx (by kernel_rfl)
 · have e : j = ws.length := by omega
   subst e
   rw [List.take_length]
   exact next
/-- The marks, the numbers, the check. -/
theorem dc_end {n0 n1 n2 n3 n4 n5 n6 N : Nat} (hN : N = p.worn.length) (i4 : PureT PP 83 (rdO B n0) [.lp 0 0] (.io 1 (rdO B n1) (zl p.marks)))
  (r1 : PureT PP 85 (rdO B n1) [.lp 0 0] (.io 1 (rdO B n2) (.ag (dR p.tol)))) (r2 : PureT PP 85 (rdO B n2) [.lp 0 0] (.io 1 (rdO B n3) (.ag (dR p.light)))) (r3 : PureT PP 85 (rdO B n3) [.lp 0 0] (.io 1 (rdO B n4) (.ag (dR p.heavy)))) (r4 : PureT PP 85 (rdO B n4) [.lp 0 0] (.io 1 (rdO B n5) (.ag (dR p.str)))) (r5 : PureT PP 85 (rdO B n5) [.lp 0 0] (.io 1 (rdO B n6) (.ag (dR p.rough))))
  (cv : Pure PP 12 [.ag p.v] (ni 0)) : GDc (.tu [.ag p.v, ni (n6 : Int), ni 0]) (lp fDc 1) (dcS B p.id p.home p.rim p.worn n0 [(62, zl Wl), (63, ni (N : Int)), (64, ni (p.worn.length : Int))]) := by
 subst hN
 have hx : decide ((p.worn.length : Int) < (p.worn.length : Int)) = false := decide_eq_false (by omega)
 have hv : p.v = [ni p.id, ni p.home, .sl (Ct.ptR p.rim), .sl (Ct.wnR p.worn), zl p.marks] ++ (dR p.tol ++ (dR p.light ++ (dR p.heavy ++ (dR p.str ++ dR p.rough)))) := rfl
 unfold dcS
 unfold GDc pcB
 unfold rdO at *
 rw [hv] at cv ⊢
 generalize Ct.ptR p.rim = PR at *
 generalize Ct.wnR p.worn = WR at *
 exact fiD idle1 [na hx, .lend _ _ _ _ [3] i4, .lend _ _ _ _ [3] r1, .lend _ _ _ _ [3] r2, .lend _ _ _ _ [3] r3, .lend _ _ _ _ [3] r4, .lend _ _ _ _ [3] r5, cl cv, cl (e_must [.sl (byL B), ni (n6 : Int)]), nL 109 3] (by kernel_rfl) (by kernel_rfl)
/-- The beginning: three lists are read. -/
noncomputable def dc0 (B : List UInt8) : St := at_ fDc [(2, .lp 0 0), (3, .lp 1 0), (4, .lp 2 0), (5, .lp 3 0)] ([.bx 30 ([ni 0, ni 0, .nl, .nl, .nl] ++ z20), .bx 3 [ni 0], .bx 35 [ni 0]] ++ rdO B 0)
theorem dc_start (next : GDc vr (rg fDc 3) (dc0 B)) : Pure PP 18 [.sl (byL B)] vr := by
 refine pf (by kernel_rfl) (.to mo_ [] [0, 2, 3, 4] [0, 1, 2] 3 [] (td' := rg fDc 1) (σ' := at_ fDc [(0, .sl (byL B)), (2, .lp 0 0), (3, .lp 1 0), (4, .lp 2 0)] [.bx 30 ([ni 0, ni 0, .nl, .nl, .nl] ++ z20), .bx 3 [ni 0], .bx 35 [ni 0]]) ?_ (by kernel_rfl))
 refine Gd.defer (t := 12) (n := 2) (g := 82) (bs := [0, 1, 2]) (by kernel_rfl) ?_
 exact .to mo_ [] [2, 3, 4, 5] [0, 1, 2, 3] 4 [] next (by kernel_rfl)
theorem dc_head {n1 n2 n3 : Nat} (i1 : PureT PP 83 (rdO B 0) [.lp 0 0] (.io 1 (rdO B n1) (zl [id, home]))) (i2 : PureT PP 83 (rdO B n1) [.lp 0 0] (.io 1 (rdO B n2) (zl (crn P)))) (i3 : PureT PP 83 (rdO B n2) [.lp 0 0] (.io 1 (rdO B n3) (zl Wl)))
  (hd : GDc vr (lp fDc 0) (dcS B id home [] [] n3 [(7, zl (crn P)), (8, zl Wl), (9, ni ((2 * 0 : Nat) : Int))])) : GDc vr (rg fDc 3) (dc0 B) := by
 have hcl := crn_len P
 have e0 : (zs [id, home])[0]? = some [ni id] := rfl
 have e1 : (zs [id, home])[1]? = some [ni home] := rfl
 have m0 : ni (((2 * P.length : Nat) : Int).tmod 2) = ni 0 := by
  rw [show (2 : Int) = ((2 : Nat) : Int) from rfl, tmod_, Nat.mul_mod_right]
  rfl
 have hzl : (zs (crn P)).length = 2 * P.length := by rw [zs_len, hcl]
 unfold dcS at hd
 unfold pcB at hd
 unfold dc0
 unfold rdO at *
 exact .to mo_ [.oc 0 2 (.rw 93 2 []), .oc 0 3 (.rw 4 1 [])] [2, 3, 4, 5, 7, 8, 9] [0, 1, 2, 3, 4, 5] 6 [.lend _ _ _ _ [3] i1, .lend _ _ _ _ [3] i2, .lend _ _ _ _ [3] i3, yt, .eqv 28 (ni ((zs (crn P)).length : Int)) (ni ((2 * P.length : Nat) : Int)) (by rw [hzl]), .eqv 29 _ _ m0, cl (e_must [.sl (byL B), ni (n3 : Int)]), .sel _ _ _ e0, .sel _ _ _ e1] hd (by kernel_rfl)
end
end Go.Proofs.YtlgnagnmoleeiaaGreat.E.Pc
namespace Go.Proofs.YtlgnagnmoleeiaaGreat.E.Pc
open Go.RowKit
set_option linter.unusedVariables false
set_option linter.unusedSimpArgs false
section
variable {B t : List UInt8} {p : Ct.Pi} {n k N : Nat} {A : List Int} {r : Rat} {i : Nat}
theorem e_pdec0 (h : En p) {n1 n2 n3 n4 n5 n6 n7 n8 n9 : Nat} (i1 : PureT PP 83 (rdO B 0) [.lp 0 0] (.io 1 (rdO B n1) (zl [p.id, p.home]))) (i2 : PureT PP 83 (rdO B n1) [.lp 0 0] (.io 1 (rdO B n2) (zl (crn p.rim)))) (i3 : PureT PP 83 (rdO B n2) [.lp 0 0] (.io 1 (rdO B n3) (zl (wnI p.worn))))
  (i4 : PureT PP 83 (rdO B n3) [.lp 0 0] (.io 1 (rdO B n4) (zl p.marks)))
  (r1 : PureT PP 85 (rdO B n4) [.lp 0 0] (.io 1 (rdO B n5) (.ag (dR p.tol)))) (r2 : PureT PP 85 (rdO B n5) [.lp 0 0] (.io 1 (rdO B n6) (.ag (dR p.light)))) (r3 : PureT PP 85 (rdO B n6) [.lp 0 0] (.io 1 (rdO B n7) (.ag (dR p.heavy)))) (r4 : PureT PP 85 (rdO B n7) [.lp 0 0] (.io 1 (rdO B n8) (.ag (dR p.str)))) (r5 : PureT PP 85 (rdO B n8) [.lp 0 0] (.io 1 (rdO B n9) (.ag (dR p.rough))))
  (cv : Pure PP 12 [.ag p.v] (ni 0)) : Pure PP 18 [.sl (byL B)] (.tu [.ag p.v, ni (n9 : Int), ni 0]) := by
 have nr := h.nr
 have nw := h.nw
 have hw : wnI p.worn = wnI p.worn ++ [] := (List.append_nil _).symm
 refine dc_start (dc_head i1 i2 i3 (dc_rim (by omega) ?_))
 rw [hw]
 exact dc_worn (by omega) rfl (dc_end (by rw [List.append_nil, wnI_len]) i4 r1 r2 r3 r4 r5 cv)
theorem Fs.vq (h : Fs r) : VQ r := by
 have key : ∀ x : Int, (digs x.natAbs).length ≤ 1000 → VZ x := fun x hx => by
  unfold VZ
  have : (znL x).length = (digs x.natAbs).length + 1 := by simp [znL]
  rw [this]
  exact ⟨by omega, by omega⟩
 exact ⟨key _ h.1, key _ h.2⟩
theorem drop_pre (s u : List UInt8) : (s ++ u).drop s.length = u := List.drop_left
theorem dropN {s u : List UInt8} (h : B.drop n = s ++ u) : B.drop (n + s.length) = u := by rw [← List.drop_drop, h]; exact drop_pre s u
theorem dropL {s u : List UInt8} (h : B.drop n = s ++ u) (h0 : 0 < s.length) : n + s.length ≤ B.length := by
 have := congrArg List.length h
 rw [List.length_drop, List.length_append] at this
 omega
/-- A code is read back. -/
theorem e_pdec (h : En p) (cv : Pure PP 12 [.ag p.v] (ni 0)) (ht : t.length ≤ 900000) : Pure PP 18 [.sl (byL (encP p ++ t))] (.tu [.ag p.v, ni ((encP p).length : Int), ni 0]) := by
 have hcl := crn_len p.rim
 have hwl := wnI_len p.worn
 have i1 : ∀ x ∈ [p.id, p.home], W.Is64 x := fun x hx => by
  simp at hx
  rcases hx with rfl | rfl
  · exact h.id
  · exact h.home
 have nr := h.nr
 have nw := h.nw
 have nm := h.nm
 have l1 := wl_ [p.id, p.home] (Nat.le_of_ble_eq_true rfl)
 have l2 := wl_ (crn p.rim) (by omega)
 have l3 := wl_ (wnI p.worn) (by omega)
 have l4 := wl_ p.marks (by omega)
 have q0 := h.q p.tol (by simp [numP]); have q1 := h.q p.light (by simp [numP]); have q2 := h.q p.heavy (by simp [numP]); have q3 := h.q p.str (by simp [numP]); have q4 := h.q p.rough (by simp [numP])
 have n0 := q0.len; have n1 := q1.len; have n2 := q2.len; have n3 := q3.len; have n4 := q4.len
 have v1 := W.codecI.back [p.id, p.home] ⟨i1, ⟨show (-9223372036854775808 : Int) ≤ 2 by omega, show (2 : Int) ≤ 9223372036854775807 by omega⟩⟩
 have v2 := W.codecI.back (crn p.rim) ⟨crn_64 h.r, ⟨by omega, by omega⟩⟩
 have v3 := W.codecI.back (wnI p.worn) ⟨wnI_64, ⟨by omega, by omega⟩⟩
 have v4 := W.codecI.back p.marks ⟨h.m, ⟨by omega, by omega⟩⟩
 have w0 := codecQ.back p.tol q0.vq
 have w1 := codecQ.back p.light q1.vq
 have w2 := codecQ.back p.heavy q2.vq
 have w3 := codecQ.back p.str q3.vq
 have w4 := codecQ.back p.rough q4.vq
 have hB : encP p ++ t = W.encI [p.id, p.home] ++ (W.encI (crn p.rim) ++ (W.encI (wnI p.worn) ++ (W.encI p.marks ++ (encQ p.tol ++ (encQ p.light ++ (encQ p.heavy ++ (encQ p.str ++ (encQ p.rough ++ t)))))))) := by simp [encP, hdP, numP, List.append_assoc]
 have hlen : (encP p).length = 0 + (W.encI [p.id, p.home]).length + (W.encI (crn p.rim)).length + (W.encI (wnI p.worn)).length + (W.encI p.marks).length + (encQ p.tol).length + (encQ p.light).length + (encQ p.heavy).length + (encQ p.str).length + (encQ p.rough).length := by simp [encP, hdP, numP]; omega
 have hb : (encP p ++ t).length ≤ 1000000 := by rw [List.length_append]; omega
 rw [hlen]
 generalize W.encI [p.id, p.home] = s1 at *
 generalize W.encI (crn p.rim) = s2 at *
 generalize W.encI (wnI p.worn) = s3 at *
 generalize W.encI p.marks = s4 at *
 generalize encQ p.tol = s5 at *
 generalize encQ p.light = s6 at *
 generalize encQ p.heavy = s7 at *
 generalize encQ p.str = s8 at *
 generalize encQ p.rough = s9 at *
 generalize encP p ++ t = B at *
 have d0 : B.drop 0 = _ := hB
 have d1 := dropN d0
 have d2 := dropN d1
 have d3 := dropN d2
 have d4 := dropN d3
 have d5 := dropN d4
 have d6 := dropN d5
 have d7 := dropN d6
 have d8 := dropN d7
 exact e_pdec0 h (e_ints hb (by rw [d0]; exact v1 _) (dropL d0 (by omega))) (e_ints hb (by rw [d1]; exact v2 _) (dropL d1 (by omega))) (e_ints hb (by rw [d2]; exact v3 _) (dropL d2 (by omega))) (e_ints hb (by rw [d3]; exact v4 _) (dropL d3 (by omega)))
  (e_rat hb (by rw [d4]; exact w0 _) (dropL d4 (by omega))) (e_rat hb (by rw [d5]; exact w1 _) (dropL d5 (by omega))) (e_rat hb (by rw [d6]; exact w2 _) (dropL d6 (by omega))) (e_rat hb (by rw [d7]; exact w3 _) (dropL d7 (by omega))) (e_rat hb (by rw [d8]; exact w4 _) (dropL d8 (by omega))) cv
end
end Go.Proofs.YtlgnagnmoleeiaaGreat.E.Pc
namespace Go.Proofs.YtlgnagnmoleeiaaGreat.E
open Go.RowKit
set_option linter.unusedVariables false
set_option linter.unusedSimpArgs false
def chn (v : Value) : List PanicEntry := [{ v := v, recovered := false }]
def thrE (v : Value) (e : Ending) (_ : Value) : Prop := e = .panicked (chn v)
def thrD (k : Nat) : RD := .io k (List.replicate k .dead) .un
/-- The operation that throws, behind n operations of a region. -/
noncomputable def thrV (P : Program) (td : List Item) (n : Nat) (σ : St) (sc : List (Fa P)) (f0 : FuncId) (hs0 : List HO) (ds0 : List V) (k : Nat) (ρ : List Nat) : Option (St × Ks) := match td with
 | .code (.region _ ops false) :: _ => match nodef ops with
   | true => match regR P ops (ops.toList.take n) [] σ sc with
     | some (σ1, _, sc1, k1) => match ops.toList.drop n with
       | o :: _ => match o.op, o.guard with
         | .call c, none => match c.callee with
           | .value x => match σ1.ev x with
             | .cl f caps => match lendV (P := P) σ1 f (argV P σ1 c.args.toList c.argTypes.toList ++ caps) f0 hs0 ds0 (thrD k) ρ sc1 with
               | some r => some (⟨σ1.t, apps σ1.h r.ws⟩, k1 ++ r.ks)
               | none => none
             | _ => none
           | _ => none
         | _, _ => none
       | [] => none
     | none => none
   | false => none
 | _ => none
section
variable {P : Program} {f g : FuncId} {fn : Func} {bs : List Nat} {v : Value}
theorem thr_ok {td : List Item} {n : Nat} {σ σ2 : St} {sc : List (Fa P)} {f0 : FuncId} {hs0 : List HO} {ds0 : List V} {k : Nat} {ρ : List Nat} {ks : Ks} (e : thrV P td n σ sc f0 hs0 ds0 k ρ = some (σ2, ks)) (hk : ∀ p ∈ ks, p.1 = p.2) (hp : PureX (thrE v) P f0 hs0 ds0 (thrD k))
  {B M : Nat → Prop} {w0 w : World} {a : Act} {m : Nat → Option Value} (H : SOk B M w0 σ a m w) (I : World → (Nat → Prop) → (Nat → Option Value) → Prop) (hI : ∀ w A m w' A' m', I w A m → Mo w A m w' A' m' → I w' A' m') (h0 : I w (Av M σ.ho m) m) (b : Frame) (cs : List Frame) :
  ∃ a' w' m' todo, Steps P (lone (b.at a td) cs w) (lone { b.at a' todo with mode := .panicking (chn v) } cs w') ∧ SOk B M w0 σ2 a' m' w' ∧ I w' (Av M σ2.ho m') m' ∧ a'.defers = a.defers := by
 unfold thrV at e
 split at e
 case h_2 => cases e
 rename_i id ops k'
 split at e
 case h_2 => cases e
 rename_i hnd
 split at e
 case h_2 => cases e
 rename_i σ1 fps sc1 k1 hr
 split at e
 case h_2 => cases e
 rename_i o rest hdrop
 split at e
 case h_2 => cases e
 rename_i c hop hg
 split at e
 case h_2 => cases e
 rename_i x hc
 split at e
 case h_2 => cases e
 rename_i f' caps hcl
 split at e
 case h_2 => cases e
 rename_i r hlv
 simp only [Option.some.injEq, Prod.mk.injEq] at e
 obtain ⟨rfl, rfl⟩ := e
 have hsplit : ops.toList = ops.toList.take n ++ (o :: rest) := by rw [← hdrop, List.take_append_drop]
 have ho : ops[n]? = some o := by
  have h1 : (ops.toList.drop n)[0]? = some o := by rw [hdrop]; rfl
  rw [List.getElem?_drop] at h1
  simpa using h1
 have hwp : (Code.region id ops false).wpIn Fence.wide 0 P (fun e a' w' => e = .panic (chn v) ∧ ∃ m', SOk B M w0 ⟨σ1.t, apps σ1.h r.ws⟩ a' m' w' ∧ I w' (Av M (⟨σ1.t, apps σ1.h r.ws⟩ : St).ho m') m' ∧ a'.defers = a.defers) a w := by
  refine wpIn_region_list ?_
  have key := seq_okR (rest := o :: rest) (nf := 0) (Q := fun e a' w' => e = .panic (chn v) ∧ ∃ m', SOk B M w0 ⟨σ1.t, apps σ1.h r.ws⟩ a' m' w' ∧ I w' (Av M (⟨σ1.t, apps σ1.h r.ws⟩ : St).ho m') m' ∧ a'.defers = a.defers) WideF.wide hnd I hI (ops.toList.take n) [] 0 σ σ1 fps sc sc1 k1 a m w (by rw [List.drop_zero]; exact hsplit) hr (fun p hp => hk p (List.mem_append.2 (.inl hp))) H h0 rfl ?_
  · rw [← hsplit] at key
    exact key
  intro a1 m1 w1 H1 k0 hds1
  have hw : Region.wanted o (yielded ops a1.tmps) = true := wanted_none hg
  unfold wpListIn
  rw [if_pos hw]
  have hcv := ev_rep (a := a1) (x := x) (σ := σ1) (w := w1) (A := Av M σ1.ho m1) (m := m1) H1.K.gl fun t0 _ => H1.slot t0
  rw [hcl] at hcv
  obtain ⟨cs', hce, hcs, hcr⟩ : ∃ cs' : Array Value, a1.eval x = .func (.func f') #[] cs' ∧ cs'.size = caps.length ∧ ∀ j x, caps[j]? = some x → Rep w1 (Av M σ1.ho m1) m1 (cs'.getD j undef) x := by
   generalize a1.eval x = u at hcv
   cases hcv with
   | cl _ _ cs _ h1 h2 => exact ⟨cs, rfl, h1, h2⟩
  obtain ⟨f'', args, h1, h2⟩ := lend_okX (E := thrE v) H1.K (a := a1) (o := o) hop hc (fun p hp => hk p (List.mem_append.2 (.inr hp))) ⟨fun t _ => H1.slot t, H1.K.gl⟩ (fun _ _ => rfl) (fun b _ hb => ⟨by simp only [St.ho, List.getD_eq_getElem?_getD, List.getElem?_eq_none hb]; rfl, by
       cases hm : m1 b with
       | none => rfl
       | some x => have := H1.nm b (by rw [hm]; intro e; cases e); omega⟩) hp hce hcs hcr hlv
  unfold Oper.wpIn
  refine ⟨fun f _ => trivial, ?_⟩
  rw [Oper.semAt_plain _ _ _ (nodef_at hnd ho), h1]
  refine ⟨fun h => (by cases h), callsIn_wide.2 (h2.mono fun e w' h => ?_)⟩
  obtain ⟨u, rfl, hpost⟩ := h
  obtain ⟨m', H', hmo⟩ := H1.step (o := { o with dst := none }) hpost
  exact ⟨rfl, m', H', hI _ _ _ _ _ _ k0 hmo, hds1⟩
 obtain ⟨e', a', w', ⟨rfl, m', H', hI', hd'⟩, todo, harr⟩ := wpIn_wide.1 hwp b k' cs
 exact ⟨a', w', m', todo, harr, H', hI', hd'⟩
/-- The marks are taken off, in whatever mode. -/
theorem marks_any {u : FrameMode} (hu : u ≠ .run) {B : Nat → Prop} {M : Nat → Prop} {w0 : World} {σ : St} {m : Nat → Option Value} {cs : List Frame} : ∀ (n : Nat) (a : Act) (w : World) (fr : Frame), a.defers.length = n → unmk a.defers = [] → SOk B M w0 σ a m w → fr.mode = u → fr.defers = a.defers → fr.tmps = a.tmps →
  ∃ w' fr', Steps P (lone fr cs w) (lone fr' cs w') ∧ SOk B M w0 σ { a with defers := [] } m w' ∧ fr'.mode = u ∧ fr'.defers = [] ∧ fr'.tmps = a.tmps ∧ fr'.kind = fr.kind ∧ fr'.fn = fr.fn
 | 0, a, w, fr, hl, hrs, H, h1, h2, h3 => by
  have h0 : a.defers = [] := List.length_eq_zero_iff.1 hl
  have ha : a = { a with defers := [] } := by cases a; simp at h0; subst h0; rfl
  refine ⟨w, fr, Steps.refl _ _, by rw [← ha]; exact H, h1, h2.trans h0, h3, rfl, rfl⟩
 | n + 1, a, w, fr, hl, hrs, H, h1, h2, h3 => by
  match hd : a.defers with
  | [] => rw [hd] at hl; cases hl
  | d :: ds =>
    obtain ⟨D, w', q1, q2, q3⟩ := H.drop (P := P) hrs hd
    obtain ⟨w2, fr2, k1, k2, k3, k4, k5, k6, k7⟩ := marks_any hu (cs := cs) n { a with defers := ds } w' { fr with defers := ds } (by rw [hd] at hl; simpa using hl) (rest_tl (d := d) (by rw [← hd]; exact hrs)) q3 h1 rfl h3
    refine ⟨w2, fr2, .trans (.one (step_collected (by rw [h1]; exact hu) (h2.trans hd) q1 q2)) ?_, k2, k3, k4, k5, k6, k7⟩
    simpa using k1
/-- A function that throws. -/
theorem GdX.thr {td : List Item} {n : Nat} {σ σ2 : St} {sc : List (Fa P)} {f0 : FuncId} {hs0 : List HO} {ds0 : List V} {k k0 : Nat} {ρ : List Nat} {ks : Ks} (hf : P.funcs[f]? = some fn) (e : thrV P td n σ sc f0 hs0 ds0 k0 ρ = some (σ2, ks)) (hk : ∀ p ∈ ks, p.1 = p.2) (hp : PureX (thrE v) P f0 hs0 ds0 (thrD k0)) : GdX (thrE v) P f (thrD k) td σ := by
 intro w0 B M m0 b a m w cs hfn hkd hrs hM H
 obtain ⟨a', w', m', todo, h1, H', hI, hd⟩ := thr_ok e hk hp H (fun _ _ m => ∀ j, j < (thrD k).n → m j = m0 j ∧ m0 j ≠ none) (fun _ _ _ _ _ _ g1 g2 j hj => io_mo g1 g2 j hj) hM b cs
 obtain ⟨w2, fr, k1, k2, k3, k4, k5, k6, k7⟩ := marks_any (P := P) (cs := cs) (u := .panicking (chn v)) (by intro e; cases e) _ a' w' { b.at a' todo with mode := .panicking (chn v) } rfl (by rw [hd]; exact hrs) H' rfl rfl rfl
 refine ⟨.panicked (chn v), w2, fr, ⟨undef, rfl, ⟨fun _ => .dead, m', k2.K.sub fun b => .inr rfl, fun j hj => (hI j hj).1, fun j hj => ?_, .un _ _⟩, k2.bl⟩, Steps.trans h1 k1, k7.trans hfn, k3, k4, fn, ?_⟩
 · rw [List.getD_eq_getElem?_getD, List.getElem?_replicate]
   split <;> rfl
 · rw [k7]
   show P.funcs[b.fn]? = _
   rw [hfn]
   exact hf
theorem PureX.of_gd {E : Ending → Value → Prop} {d : RD} (hf : P.funcs[f]? = some fn) (hb : fn.body.isSome = true) (hok : okF P f) {hs : List HO} {ds : List V} (h : GdX E P f d (body fn) (st0T fn hs ds)) (hdr : (∀ m0, d.rest m0 = []) := by intro; rfl) : PureX E P f hs ds d := by
 refine ⟨hok, fun w B M m args hK hm hn hargs cs => ?_⟩
 obtain ⟨c, hc⟩ := Option.isSome_iff_exists.1 hb
 let b : Frame := { (default : Frame) with fn := f, kind := .normal }
 have henter : Frame.enter P f args .normal = b.at { tmps := args ++ Array.replicate (fn.ntmps - args.size) undef, defers := [] } [.code c] := by
  simp [Frame.enter, Frame.at, hf, hc, b]
 have hbody : body fn = [.code c] := by simp [body, hc]
 rw [hbody] at h
 obtain ⟨e, w', fr, ⟨v, hE, h2, h3⟩, h4, h5⟩ := h w B M m b { tmps := args ++ Array.replicate (fn.ntmps - args.size) undef, defers := [] } m w cs rfl rfl (hdr m).symm (fun j hj => ⟨rfl, hn j hj⟩)
  ⟨hK, by simp [st0T, hargs.1], DfOk.nil, fun i x hx => (by
   have hx : (ds ++ List.replicate (fn.ntmps - ds.length) .un)[i]? = some x := hx
   rcases Nat.lt_or_ge i ds.length with h1 | h1
   · rw [List.getElem?_append_left h1] at hx
     have h2 := hargs.2 i x hx
     have h3 : (args ++ Array.replicate (fn.ntmps - args.size) undef).getD i undef = args.getD i undef := by
      rw [Array.getD_eq_getD_getElem?, Array.getD_eq_getD_getElem?, Array.getElem?_append_left (by rw [hargs.1]; exact h1)]
     show Rep _ _ _ ((args ++ Array.replicate (fn.ntmps - args.size) undef).getD i undef) _
     rw [h3]
     exact h2
   · rw [List.getElem?_append_right h1, List.getElem?_replicate] at hx
     split at hx
     · injection hx with hx; subst hx; exact .un _ _
     · cases hx), fun b hb => hm b hb, Bl.refl _ _⟩
 exact ⟨e, w', fr, ⟨v, hE, h2, h3⟩, by rw [henter]; exact h4, h5⟩
/-- The run to the operation that throws. -/
noncomputable def thrR (P : Program) (td : List Item) (n : Nat) (σ : St) (sc : List (Fa P)) (f0 : FuncId) (hs0 : List HO) (ds0 : List V) (k : Nat) (ρ : List Nat) : Option (St × Ks) := match run P 5000 td σ sc with
 | .at_ td' σ' sc' ks => match thrV P td' n σ' sc' f0 hs0 ds0 k ρ with
   | some (σ2, k2) => some (σ2, ks ++ k2)
   | none => none
 | .bad => none
def metT (r : Option (St × Ks)) : Bool × List (List V) := match r with
 | some x => (true, x.2.map (·.1))
 | none => (false, [])
def toldT (r : Option (St × Ks)) : Bool × List (List V) := match r with
 | some x => (true, x.2.map (·.2))
 | none => (true, [])
theorem metT_ok {r : Option (St × Ks)} (h : metT r = toldT r) : ∃ σ2 ks, r = some (σ2, ks) ∧ ∀ p ∈ ks, p.1 = p.2 := by
 cases r with
 | none => simp [metT, toldT] at h
 | some x =>
  obtain ⟨σ2, ks⟩ := x
  simp only [metT, toldT, Prod.mk.injEq, true_and] at h
  exact ⟨σ2, ks, rfl, ks_ok h⟩
theorem GdX.thrR {td : List Item} {n : Nat} {σ : St} {sc : List (Fa P)} {f0 : FuncId} {hs0 : List HO} {ds0 : List V} {k k0 : Nat} {ρ : List Nat} (hm : P.follows .mixedOrders = true) (hf : P.funcs[f]? = some fn) (hp : PureX (thrE v) P f0 hs0 ds0 (thrD k0)) (e : metT (E.thrR P td n σ sc f0 hs0 ds0 k0 ρ) = toldT (E.thrR P td n σ sc f0 hs0 ds0 k0 ρ)) : GdX (thrE v) P f (thrD k) td σ := by
 obtain ⟨σ2, ks, h1, h2⟩ := metT_ok e
 unfold E.thrR at h1
 split at h1
 case h_2 => cases h1
 rename_i td' σ' sc' ks' hr
 split at h1
 case h_2 => cases h1
 rename_i σ3 k2 hv
 simp only [Option.some.injEq, Prod.mk.injEq] at h1
 obtain ⟨rfl, rfl⟩ := h1
 exact run_okX hm _ _ _ _ _ _ _ _ hr (fun p hp => h2 p (List.mem_append.2 (.inl hp))) (.thr hf hv (fun p hp => h2 p (List.mem_append.2 (.inr hp))) hp)
end
/-- **A function that throws**. -/
theorem trX {v : Value} {f : FuncId} {hs : List HO} {ds : List V} {n : Nat} {k k0 : Nat} (sc : List (Fa PP)) {f0 : FuncId} {hs0 : List HO} {ds0 : List V} (ρ : List Nat) (h : okB PP f = true) (hp : PureX (thrE v) PP f0 hs0 ds0 (thrD k0)) (e : metT (thrR PP (body (fnOf PP f)) n (st0T (fnOf PP f) hs ds) sc f0 hs0 ds0 k0 ρ) = toldT (thrR PP (body (fnOf PP f)) n (st0T (fnOf PP f) hs ds) sc f0 hs0 ds0 k0 ρ)) : PureX (thrE v) PP f hs ds (thrD k) :=
 .of_gd (fn_of h).1 (fn_of h).2 (okF_of h) (.thrR mo_ (fn_of h).1 hp e) (fun _ => rfl)
end Go.Proofs.YtlgnagnmoleeiaaGreat.E
