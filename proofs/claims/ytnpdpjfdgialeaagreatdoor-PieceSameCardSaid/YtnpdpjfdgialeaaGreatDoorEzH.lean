/-
 PIECE: a piece is the same as itself.
-/
import Derived.Test.YtnpdpjfdgialeaaGreatDoorEzD
import Derived.Test.YtnpdpjfdgialeaaGreatDoorPlainX
namespace Go.Proofs.YtnpdpjfdgialeaaGreatDoor.E.Pc
open Go.RowKit
set_option linter.unusedVariables false
set_option linter.unusedSimpArgs false
noncomputable abbrev fDc : Func := fnOf PP 47
/-- What is being read: the piece. -/
def pcB (id home : Int) (m : V) (q : List V) : HO := .bx 30 ([ni id, ni home, .ow 4, .ow 5, m] ++ q)
def zer4 : List V := [bo false, .nl, bo false, .nl]
def z20 : List V := zer4 ++ (zer4 ++ (zer4 ++ (zer4 ++ zer4)))
noncomputable abbrev GDc (vr : V) (td : List Item) (σ : St) : Prop := Gd PP 47 (.df (2 + 1) (dfr 82 [0, 1, 2]) vr) td σ
noncomputable def dcS (B : List UInt8) (id home : Int) (P : List (Int × Int)) (ws : List Bool) (n : Nat) (m : List (Nat × V)) : St := at_ fDc ([(2, .lp 0 0), (3, .lp 1 0), (4, .lp 2 0), (5, .lp 3 0)] ++ m) ([pcB id home .nl z20, .bx 3 [ni 0], .bx 78 [ni 0]] ++ (rdO B n ++ [.rw 52 2 (Ct.ptR P), .rw 4 1 (Ct.wnR ws)]))
section
variable {B : List UInt8} {p : Ct.Pi} {n k N : Nat} {A : List Int} {r : Rat} {i : Nat} {id home : Int} {P : List (Int × Int)} {ws : List Bool} {Wl Wr : List Int} {vr : V}
theorem crn_at (h : i < P.length) : (zs (crn P))[2 * i]? = some [ni (cpt P i).1] ∧ (zs (crn P))[2 * i + 1]? = some [ni (cpt P i).2] := by
 have key : ∀ (P : List (Int × Int)) (i : Nat), i < P.length → (crn P)[2 * i]? = some (cpt P i).1 ∧ (crn P)[2 * i + 1]? = some (cpt P i).2 := by
  intro P
  induction P with
  | nil => intro i h; cases h
  | cons c P ih =>
   intro i h
   have e : crn (c :: P) = c.1 :: c.2 :: crn P := rfl
   rw [e]
   cases i with
   | zero => exact ⟨rfl, rfl⟩
   | succ i =>
     obtain ⟨h1, h2⟩ := ih i (by simpa using h)
     rw [show 2 * (i + 1) = 2 * i + 1 + 1 by omega]
     exact ⟨h1, h2⟩
 obtain ⟨h1, h2⟩ := key P i h
 exact ⟨zs_at h1, zs_at h2⟩
theorem ptR_next (h : i < P.length) : Ct.ptR (P.take i) ++ [[ni (cpt P i).1, ni (cpt P i).2]] = Ct.ptR (P.take (i + 1)) := by
 unfold Ct.ptR cpt
 rw [List.take_add_one, List.getD_eq_getElem?_getD, List.getElem?_eq_getElem h, List.map_append]
 rfl
theorem wnR_next {w : Bool} (h : ws[i]? = some w) : Ct.wnR (ws.take i) ++ [[bo w]] = Ct.wnR (ws.take (i + 1)) := by
 unfold Ct.wnR
 rw [List.take_add_one, h, List.map_append]
 rfl
theorem wnI_at {w : Bool} (h : ws[i]? = some w) : (zs (wnI ws ++ Wr))[i]? = some [ni (if w then 1 else 0)] := zs_at (by
 have hi : i < ws.length := (List.getElem?_eq_some_iff.1 h).1
 rw [List.getElem?_append_left (by rw [wnI_len]; exact hi)]
 unfold wnI
 rw [List.getElem?_map, h]
 rfl)
/-- The corners. -/
theorem dc_rim (nr : P.length ≤ 4000) (next : GDc vr (lp fDc 1) (dcS B id home P [] n [(62, zl Wl), (63, ni (Wl.length : Int)), (64, ni ((0 : Nat) : Int))])) : GDc vr (lp fDc 0) (dcS B id home [] [] n [(7, zl (crn P)), (8, zl Wl), (9, ni ((2 * 0 : Nat) : Int))]) := by
 have hcl := crn_len P
 refine Gd.loop (fun i => dcS B id home (P.take i) [] n [(7, zl (crn P)), (8, zl Wl), (9, ni ((2 * i : Nat) : Int))]) (fun i => i ≤ P.length) (fun i => P.length - i) ?_ 0 (Nat.zero_le _)
 intro i hi ih
 have hzl : (zs (crn P)).length = 2 * P.length := by rw [zs_len, hcl]
 by_cases g : i < P.length
 · obtain ⟨e1, e2⟩ := crn_at g
   have nx := ih (i + 1) g (by omega)
   have hap := ptR_next g
   have hl : (Ct.ptR (P.take (i + 1))).length ≤ 4000 := by
    have : (Ct.ptR (P.take (i + 1))).length = (P.take (i + 1)).length := List.length_map ..
    rw [this, List.length_take]
    omega
   have hx : decide (((2 * i : Nat) : Int) < ((2 * P.length : Nat) : Int)) = true := decide_eq_true (by omega)
   unfold dcS at nx ⊢
   unfold pcB rdO at nx ⊢
   generalize Ct.ptR (P.take i) = A at *
   generalize Ct.ptR (P.take (i + 1)) = A' at *
   generalize cpt P i = c at *
   exact .to mo_ [.mv 4 7] [2, 3, 4, 5, 7, 8, 9] [0, 1, 2, 3, 4, 5] 6 [.eqv 43 (ni ((zs (crn P)).length : Int)) (ni ((2 * P.length : Nat) : Int)) (by rw [hzl]), ye hx, .sel _ _ _ e1, inc 55 (2 * i) (by omega), .sel _ _ _ e2, .app A [[ni c.1, ni c.2]] A' 4000 hap (show 0 < 1 by decide) hl, wq 46 (((2 * i : Nat) : Int) + 2) ((2 * (i + 1) : Nat) : Int) (by omega)] nx (by kernel_rfl)
 · have e : i = P.length := by omega
   subst e
   have hx : decide (((2 * P.length : Nat) : Int) < ((2 * P.length : Nat) : Int)) = false := decide_eq_false (by omega)
   rw [List.take_length]
   unfold dcS at next ⊢
   unfold pcB rdO at next ⊢
   exact .to mo_ [] [2, 3, 4, 5, 62, 63, 64] [0, 1, 2, 3, 4, 5] 6 [.eqv 43 (ni ((zs (crn P)).length : Int)) (ni ((2 * P.length : Nat) : Int)) (by rw [hzl]), na hx, .eqv 63 (ni ((zs Wl).length : Int)) (ni (Wl.length : Int)) (by rw [zs_len])] next (by kernel_rfl)
/-- The worn edges, so far as they are ones. -/
theorem dc_worn (nw : ws.length ≤ 4000) {N : Nat} (hN : N = (wnI ws ++ Wr).length) (next : GDc vr (lp fDc 1) (dcS B id home P ws n [(62, zl (wnI ws ++ Wr)), (63, ni (N : Int)), (64, ni (ws.length : Int))])) : GDc vr (lp fDc 1) (dcS B id home P [] n [(62, zl (wnI ws ++ Wr)), (63, ni (N : Int)), (64, ni ((0 : Nat) : Int))]) := by
 have hN' : ws.length ≤ N := by rw [hN, List.length_append, wnI_len]; omega
 clear hN
 refine Gd.loop (fun j => dcS B id home P (ws.take j) n [(62, zl (wnI ws ++ Wr)), (63, ni (N : Int)), (64, ni (j : Int))]) (fun j => j ≤ ws.length) (fun j => ws.length - j) ?_ 0 (Nat.zero_le _)
 intro j hj ih
 by_cases g : j < ws.length
 · obtain ⟨w, hw, _⟩ := Ct.get_of g
   have e1 := wnI_at (Wr := Wr) hw
   have nx := ih (j + 1) g (by omega)
   have hap := wnR_next hw
   have hl : (Ct.wnR (ws.take (j + 1))).length ≤ 4000 := by
    have : (Ct.wnR (ws.take (j + 1))).length = (ws.take (j + 1)).length := List.length_map ..
    rw [this, List.length_take]
    omega
   have hx : decide ((j : Int) < (N : Int)) = true := decide_eq_true (by omega)
   unfold dcS at nx ⊢
   unfold pcB rdO at nx ⊢
   generalize Ct.ptR P = D at *
   generalize Ct.wnR (ws.take j) = A at *
   generalize Ct.wnR (ws.take (j + 1)) = A' at *
   generalize wnI ws ++ Wr = WL at *
   cases w with
   | true => exact .to mo_ [.mv 5 7] [2, 3, 4, 5, 62, 63, 64] [0, 1, 2, 3, 4, 5] 6 [ye hx, .sel _ _ _ e1, nf, cl (e_must [.sl (byL B), ni (n : Int)]), .app A [[bo true]] A' 4000 hap (show 0 < 1 by decide) hl, inc 83 j (by omega)] nx (by kernel_rfl)
   | false => exact .to mo_ [.mv 5 7] [2, 3, 4, 5, 62, 63, 64] [0, 1, 2, 3, 4, 5] 6 [ye hx, .sel _ _ _ e1, yt, cl (e_must [.sl (byL B), ni (n : Int)]), .app A [[bo false]] A' 4000 hap (show 0 < 1 by decide) hl, inc 83 j (by omega)] nx (by kernel_rfl)
 · have e : j = ws.length := by omega
   subst e
   rw [List.take_length]
   exact next
/-- The marks, the numbers, the check. -/
theorem dc_end {n0 n1 n2 n3 n4 n5 n6 N : Nat} (hN : N = p.worn.length) (i4 : PureT PP 83 (rdO B n0) [.lp 0 0] (.io 1 (rdO B n1) (zl p.marks)))
  (r1 : PureT PP 85 (rdO B n1) [.lp 0 0] (.io 1 (rdO B n2) (.ag (dR p.tol)))) (r2 : PureT PP 85 (rdO B n2) [.lp 0 0] (.io 1 (rdO B n3) (.ag (dR p.light)))) (r3 : PureT PP 85 (rdO B n3) [.lp 0 0] (.io 1 (rdO B n4) (.ag (dR p.heavy)))) (r4 : PureT PP 85 (rdO B n4) [.lp 0 0] (.io 1 (rdO B n5) (.ag (dR p.str)))) (r5 : PureT PP 85 (rdO B n5) [.lp 0 0] (.io 1 (rdO B n6) (.ag (dR p.rough))))
  (cv : Pure PP 39 [.ag p.v] (ni 0)) : GDc (.tu [.ag p.v, ni (n6 : Int), ni 0]) (lp fDc 1) (dcS B p.id p.home p.rim p.worn n0 [(62, zl Wl), (63, ni (N : Int)), (64, ni (p.worn.length : Int))]) := by
 subst hN
 have hx : decide ((p.worn.length : Int) < (p.worn.length : Int)) = false := decide_eq_false (by omega)
 have hv : p.v = [ni p.id, ni p.home, .sl (Ct.ptR p.rim), .sl (Ct.wnR p.worn), zl p.marks] ++ (dR p.tol ++ (dR p.light ++ (dR p.heavy ++ (dR p.str ++ dR p.rough)))) := rfl
 unfold dcS
 unfold GDc pcB
 unfold rdO at *
 rw [hv] at cv ⊢
 generalize Ct.ptR p.rim = PR at *
 generalize Ct.wnR p.worn = WR at *
 exact fiD idle1 [na hx, .lend _ _ _ _ [3] i4, .lend _ _ _ _ [3] r1, .lend _ _ _ _ [3] r2, .lend _ _ _ _ [3] r3, .lend _ _ _ _ [3] r4, .lend _ _ _ _ [3] r5, cl cv, cl (e_must [.sl (byL B), ni (n6 : Int)]), nL 109 3] (by kernel_rfl) (by kernel_rfl)
/-- The beginning: three lists are read. -/
noncomputable def dc0 (B : List UInt8) : St := at_ fDc [(2, .lp 0 0), (3, .lp 1 0), (4, .lp 2 0), (5, .lp 3 0)] ([.bx 30 ([ni 0, ni 0, .nl, .nl, .nl] ++ z20), .bx 3 [ni 0], .bx 78 [ni 0]] ++ rdO B 0)
theorem dc_start (next : GDc vr (rg fDc 3) (dc0 B)) : Pure PP 47 [.sl (byL B)] vr := by
 refine pf (by kernel_rfl) (.to mo_ [] [0, 2, 3, 4] [0, 1, 2] 3 [] (td' := rg fDc 1) (σ' := at_ fDc [(0, .sl (byL B)), (2, .lp 0 0), (3, .lp 1 0), (4, .lp 2 0)] [.bx 30 ([ni 0, ni 0, .nl, .nl, .nl] ++ z20), .bx 3 [ni 0], .bx 78 [ni 0]]) ?_ (by kernel_rfl))
 refine Gd.defer (t := 12) (n := 2) (g := 82) (bs := [0, 1, 2]) (by kernel_rfl) ?_
 exact .to mo_ [] [2, 3, 4, 5] [0, 1, 2, 3] 4 [] next (by kernel_rfl)
theorem dc_head {n1 n2 n3 : Nat} (i1 : PureT PP 83 (rdO B 0) [.lp 0 0] (.io 1 (rdO B n1) (zl [id, home]))) (i2 : PureT PP 83 (rdO B n1) [.lp 0 0] (.io 1 (rdO B n2) (zl (crn P)))) (i3 : PureT PP 83 (rdO B n2) [.lp 0 0] (.io 1 (rdO B n3) (zl Wl)))
  (hd : GDc vr (lp fDc 0) (dcS B id home [] [] n3 [(7, zl (crn P)), (8, zl Wl), (9, ni ((2 * 0 : Nat) : Int))])) : GDc vr (rg fDc 3) (dc0 B) := by
 have hcl := crn_len P
 have e0 : (zs [id, home])[0]? = some [ni id] := rfl
 have e1 : (zs [id, home])[1]? = some [ni home] := rfl
 have m0 : ni (((2 * P.length : Nat) : Int).tmod 2) = ni 0 := by
  rw [show (2 : Int) = ((2 : Nat) : Int) from rfl, tmod_, Nat.mul_mod_right]
  rfl
 have hzl : (zs (crn P)).length = 2 * P.length := by rw [zs_len, hcl]
 unfold dcS at hd
 unfold pcB at hd
 unfold dc0
 unfold rdO at *
 exact .to mo_ [.oc 0 2 (.rw 52 2 []), .oc 0 3 (.rw 4 1 [])] [2, 3, 4, 5, 7, 8, 9] [0, 1, 2, 3, 4, 5] 6 [.lend _ _ _ _ [3] i1, .lend _ _ _ _ [3] i2, .lend _ _ _ _ [3] i3, yt, .eqv 28 (ni ((zs (crn P)).length : Int)) (ni ((2 * P.length : Nat) : Int)) (by rw [hzl]), .eqv 29 _ _ m0, cl (e_must [.sl (byL B), ni (n3 : Int)]), .sel _ _ _ e0, .sel _ _ _ e1] hd (by kernel_rfl)
end
end Go.Proofs.YtnpdpjfdgialeaaGreatDoor.E.Pc
namespace Go.Proofs.YtnpdpjfdgialeaaGreatDoor.E.Pc
open Go.RowKit
set_option linter.unusedVariables false
set_option linter.unusedSimpArgs false
section
variable {B t : List UInt8} {p : Ct.Pi} {n k N : Nat} {A : List Int} {r : Rat} {i : Nat}
theorem e_pdec0 (h : En p) {n1 n2 n3 n4 n5 n6 n7 n8 n9 : Nat} (i1 : PureT PP 83 (rdO B 0) [.lp 0 0] (.io 1 (rdO B n1) (zl [p.id, p.home]))) (i2 : PureT PP 83 (rdO B n1) [.lp 0 0] (.io 1 (rdO B n2) (zl (crn p.rim)))) (i3 : PureT PP 83 (rdO B n2) [.lp 0 0] (.io 1 (rdO B n3) (zl (wnI p.worn))))
  (i4 : PureT PP 83 (rdO B n3) [.lp 0 0] (.io 1 (rdO B n4) (zl p.marks)))
  (r1 : PureT PP 85 (rdO B n4) [.lp 0 0] (.io 1 (rdO B n5) (.ag (dR p.tol)))) (r2 : PureT PP 85 (rdO B n5) [.lp 0 0] (.io 1 (rdO B n6) (.ag (dR p.light)))) (r3 : PureT PP 85 (rdO B n6) [.lp 0 0] (.io 1 (rdO B n7) (.ag (dR p.heavy)))) (r4 : PureT PP 85 (rdO B n7) [.lp 0 0] (.io 1 (rdO B n8) (.ag (dR p.str)))) (r5 : PureT PP 85 (rdO B n8) [.lp 0 0] (.io 1 (rdO B n9) (.ag (dR p.rough))))
  (cv : Pure PP 39 [.ag p.v] (ni 0)) : Pure PP 47 [.sl (byL B)] (.tu [.ag p.v, ni (n9 : Int), ni 0]) := by
 have nr := h.nr
 have nw := h.nw
 have hw : wnI p.worn = wnI p.worn ++ [] := (List.append_nil _).symm
 refine dc_start (dc_head i1 i2 i3 (dc_rim (by omega) ?_))
 rw [hw]
 exact dc_worn (by omega) rfl (dc_end (by rw [List.append_nil, wnI_len]) i4 r1 r2 r3 r4 r5 cv)
theorem Fs.vq (h : Fs r) : VQ r := by
 have key : ∀ x : Int, (digs x.natAbs).length ≤ 1000 → VZ x := fun x hx => by
  unfold VZ
  have : (znL x).length = (digs x.natAbs).length + 1 := by simp [znL]
  rw [this]
  exact ⟨by omega, by omega⟩
 exact ⟨key _ h.1, key _ h.2⟩
theorem drop_pre (s u : List UInt8) : (s ++ u).drop s.length = u := List.drop_left
theorem dropN {s u : List UInt8} (h : B.drop n = s ++ u) : B.drop (n + s.length) = u := by rw [← List.drop_drop, h]; exact drop_pre s u
theorem dropL {s u : List UInt8} (h : B.drop n = s ++ u) (h0 : 0 < s.length) : n + s.length ≤ B.length := by
 have := congrArg List.length h
 rw [List.length_drop, List.length_append] at this
 omega
/-- A code is read back. -/
theorem e_pdec (h : En p) (cv : Pure PP 39 [.ag p.v] (ni 0)) (ht : t.length ≤ 900000) : Pure PP 47 [.sl (byL (encP p ++ t))] (.tu [.ag p.v, ni ((encP p).length : Int), ni 0]) := by
 have hcl := crn_len p.rim
 have hwl := wnI_len p.worn
 have i1 : ∀ x ∈ [p.id, p.home], W.Is64 x := fun x hx => by
  simp at hx
  rcases hx with rfl | rfl
  · exact h.id
  · exact h.home
 have nr := h.nr
 have nw := h.nw
 have nm := h.nm
 have l1 := wl_ [p.id, p.home] (Nat.le_of_ble_eq_true rfl)
 have l2 := wl_ (crn p.rim) (by omega)
 have l3 := wl_ (wnI p.worn) (by omega)
 have l4 := wl_ p.marks (by omega)
 have q0 := h.q p.tol (by simp [numP]); have q1 := h.q p.light (by simp [numP]); have q2 := h.q p.heavy (by simp [numP]); have q3 := h.q p.str (by simp [numP]); have q4 := h.q p.rough (by simp [numP])
 have n0 := q0.len; have n1 := q1.len; have n2 := q2.len; have n3 := q3.len; have n4 := q4.len
 have v1 := W.codecI.back [p.id, p.home] ⟨i1, ⟨show (-9223372036854775808 : Int) ≤ 2 by omega, show (2 : Int) ≤ 9223372036854775807 by omega⟩⟩
 have v2 := W.codecI.back (crn p.rim) ⟨crn_64 h.r, ⟨by omega, by omega⟩⟩
 have v3 := W.codecI.back (wnI p.worn) ⟨wnI_64, ⟨by omega, by omega⟩⟩
 have v4 := W.codecI.back p.marks ⟨h.m, ⟨by omega, by omega⟩⟩
 have w0 := codecQ.back p.tol q0.vq
 have w1 := codecQ.back p.light q1.vq
 have w2 := codecQ.back p.heavy q2.vq
 have w3 := codecQ.back p.str q3.vq
 have w4 := codecQ.back p.rough q4.vq
 have hB : encP p ++ t = W.encI [p.id, p.home] ++ (W.encI (crn p.rim) ++ (W.encI (wnI p.worn) ++ (W.encI p.marks ++ (encQ p.tol ++ (encQ p.light ++ (encQ p.heavy ++ (encQ p.str ++ (encQ p.rough ++ t)))))))) := by simp [encP, hdP, numP, List.append_assoc]
 have hlen : (encP p).length = 0 + (W.encI [p.id, p.home]).length + (W.encI (crn p.rim)).length + (W.encI (wnI p.worn)).length + (W.encI p.marks).length + (encQ p.tol).length + (encQ p.light).length + (encQ p.heavy).length + (encQ p.str).length + (encQ p.rough).length := by simp [encP, hdP, numP]; omega
 have hb : (encP p ++ t).length ≤ 1000000 := by rw [List.length_append]; omega
 rw [hlen]
 generalize W.encI [p.id, p.home] = s1 at *
 generalize W.encI (crn p.rim) = s2 at *
 generalize W.encI (wnI p.worn) = s3 at *
 generalize W.encI p.marks = s4 at *
 generalize encQ p.tol = s5 at *
 generalize encQ p.light = s6 at *
 generalize encQ p.heavy = s7 at *
 generalize encQ p.str = s8 at *
 generalize encQ p.rough = s9 at *
 generalize encP p ++ t = B at *
 have d0 : B.drop 0 = _ := hB
 have d1 := dropN d0
 have d2 := dropN d1
 have d3 := dropN d2
 have d4 := dropN d3
 have d5 := dropN d4
 have d6 := dropN d5
 have d7 := dropN d6
 have d8 := dropN d7
 exact e_pdec0 h (e_ints hb (by rw [d0]; exact v1 _) (dropL d0 (by omega))) (e_ints hb (by rw [d1]; exact v2 _) (dropL d1 (by omega))) (e_ints hb (by rw [d2]; exact v3 _) (dropL d2 (by omega))) (e_ints hb (by rw [d3]; exact v4 _) (dropL d3 (by omega)))
  (e_rat hb (by rw [d4]; exact w0 _) (dropL d4 (by omega))) (e_rat hb (by rw [d5]; exact w1 _) (dropL d5 (by omega))) (e_rat hb (by rw [d6]; exact w2 _) (dropL d6 (by omega))) (e_rat hb (by rw [d7]; exact w3 _) (dropL d7 (by omega))) (e_rat hb (by rw [d8]; exact w4 _) (dropL d8 (by omega))) cv
end
end Go.Proofs.YtnpdpjfdgialeaaGreatDoor.E.Pc
namespace Go.Proofs.YtnpdpjfdgialeaaGreatDoor.E.Pc
open Go.RowKit
set_option linter.unusedVariables false
set_option linter.unusedSimpArgs false
theorem take_st {α : Type} {l m : List α} {i : Nat} {a b : α} (h : l.take i = m.take i) (ha : l[i]? = some a) (hb : m[i]? = some b) (e : a = b) : l.take (i + 1) = m.take (i + 1) := by
 rw [List.take_add_one, List.take_add_one, h, ha, hb, e]
noncomputable abbrev feq : Func := fnOf PP 35
theorem e_eqI (l m : List Int) : Pure PP 35 [zl l, zl m] (bo (decide (l = m))) := by
 refine .len 0 (l := zs l) (by kernel_rfl) rfl fun hm => ?_
 have z1 := zs_len l
 have z2 := zs_len m
 unfold maxLen at hm
 by_cases hl : l.length = m.length
 · let X : Nat → St := fun i => at_ feq [(0, zl l), (1, zl m), (12, ni ((zs l).length : Int)), (13, ni i)] []
   refine pf (by kernel_rfl) (.to mo_ [] [0, 1, 12, 13] [] 0 [na (t := ((zs l).length : Int) != ((zs m).length : Int)) (by rw [z1, z2, hl]; simp)] (td' := lp feq 0) (σ' := X 0) ?_ (by kernel_rfl))
   refine Gd.loop X (fun i => i ≤ l.length ∧ l.take i = m.take i) (fun i => l.length - i) ?_ 0 ⟨Nat.zero_le _, rfl⟩
   intro i ⟨hi, hI⟩ ih
   by_cases h : i < l.length
   · obtain ⟨a, ha, _⟩ := Ct.get_of h
     obtain ⟨b, hb, _⟩ := Ct.get_of (l := m) (i := i) (by omega)
     have hlt : decide ((i : Int) < ((zs l).length : Int)) = true := decide_eq_true (by omega)
     by_cases e : a = b
     · exact .to mo_ [] [0, 1, 12, 13] [] 0 ([ye hlt, .sel _ _ _ (zs_at ha), .sel _ _ _ (zs_at hb)] ++ [na (t := a != b) (by simp [e]), inc 25 i (by omega)]) (ih (i + 1) ⟨h, take_st hI ha hb e⟩ (by omega)) (by kernel_rfl)
     · have hne : l ≠ m := fun h2 => by subst h2; rw [ha] at hb; exact e (Option.some.inj hb)
       rw [show decide (l = m) = false from decide_eq_false hne]
       exact fi ([ye hlt, .sel _ _ _ (zs_at ha), .sel _ _ _ (zs_at hb)] ++ [ye (t := a != b) (by simp [e])]) (by kernel_rfl) (by kernel_rfl)
   · have heq : l = m := by rwa [List.take_of_length_le (by omega), List.take_of_length_le (by omega)] at hI
     rw [show decide (l = m) = true from decide_eq_true heq]
     exact fi [na (t := decide ((i : Int) < ((zs l).length : Int))) (decide_eq_false (by omega))] (by kernel_rfl) (by kernel_rfl)
 · rw [show decide (l = m) = false from decide_eq_false fun e => hl (by rw [e])]
   exact tr [ye (t := ((zs l).length : Int) != ((zs m).length : Int)) (by rw [z1, z2]; simp; omega)] (by kernel_rfl)
theorem e_psame1 (x y : Int) : Pure PP 68 [.ag (dI x), .ag (dI y)] (bo (decide (x = y))) := by
 by_cases hs : decide (x < 0) = decide (y < 0)
 · have hd : decide (x = y) = decide (digs x.natAbs = digs y.natAbs) := by
    rw [decide_eq_decide]
    refine ⟨fun e => by rw [e], fun heq => ?_⟩
    have h2 : (x.natAbs : Int) = (y.natAbs : Int) := by rw [← val_ (x := x), ← val_ (x := y), heq]
    by_cases h4 : x < 0 <;> by_cases h5 : y < 0 <;> simp [h4, h5] at hs <;> omega
   rw [hd]
   exact tr [ye (t := decide (x < 0) == decide (y < 0)) (by rw [hs]; simp), cl (e_eqI (digs x.natAbs) (digs y.natAbs))] (by kernel_rfl)
 · rw [decide_eq_false (fun e => hs (by rw [e]))]
   exact tr [na (t := decide (x < 0) == decide (y < 0)) (by simpa using hs)] (by kernel_rfl)
theorem e_psame (r t : Rat) : Pure PP 32 [.ag (dR r), .ag (dR t)] (bo (decide (r = t))) := by
 by_cases h : r.num = t.num
 · rw [show decide (r = t) = decide (dq r = dq t) from decide_eq_decide.2 ⟨fun e => by rw [e], dq_inj h⟩]
   exact tr [cl (e_psame1 r.num t.num), ye (decide_eq_true h), cl (e_psame1 (dq r) (dq t))] (by kernel_rfl)
 · rw [show decide (r = t) = false from decide_eq_false fun e => h (by rw [e])]
   exact tr [cl (e_psame1 r.num t.num), na (decide_eq_false h)] (by kernel_rfl)
/-- Two points are compared. -/
theorem e_pt2 (a b : Int × Int) : EqA PP 52 ([a.1, a.2].map ni) ([b.1, b.2].map ni) (decide (a = b)) := by
 have h := EqA.str (P := PP) (T := 52) (n := 2) (by kernel_rfl) (xs := [a.1, a.2]) (ys := [b.1, b.2]) rfl rfl
 have e : decide ([a.1, a.2] = [b.1, b.2]) = decide (a = b) := decide_eq_decide.2 ⟨fun h => by
  simp only [List.cons.injEq, and_true] at h
  exact Prod.ext h.1 h.2, fun h => by rw [h]⟩
 rw [e] at h
 exact h
noncomputable abbrev feqP : Func := fnOf PP 33
theorem e_eqP (l m : List (Int × Int)) : Pure PP 33 [.sl (Ct.ptR l), .sl (Ct.ptR m)] (bo (decide (l = m))) := by
 refine .len 0 (l := Ct.ptR l) (by kernel_rfl) rfl fun hm => ?_
 have z1 : (Ct.ptR l).length = l.length := List.length_map ..
 have z2 : (Ct.ptR m).length = m.length := List.length_map ..
 have el : ∀ {l : List (Int × Int)} {i : Nat} {a : (Int × Int)}, l[i]? = some a → (Ct.ptR l)[i]? = some ([ni a.1, ni a.2]) := fun {l i a} h => by unfold Ct.ptR; rw [List.getElem?_map, h]; rfl
 unfold maxLen at hm
 by_cases hl : l.length = m.length
 · let X : Nat → St := fun i => at_ feqP [(0, .sl (Ct.ptR l)), (1, .sl (Ct.ptR m)), (12, ni ((Ct.ptR l).length : Int)), (13, ni i)] []
   refine pf (by kernel_rfl) (.to mo_ [] [0, 1, 12, 13] [] 0 [na (t := ((Ct.ptR l).length : Int) != ((Ct.ptR m).length : Int)) (by rw [z1, z2, hl]; simp)] (td' := lp feqP 0) (σ' := X 0) ?_ (by kernel_rfl))
   refine Gd.loop X (fun i => i ≤ l.length ∧ l.take i = m.take i) (fun i => l.length - i) ?_ 0 ⟨Nat.zero_le _, rfl⟩
   intro i ⟨hi, hI⟩ ih
   by_cases h : i < l.length
   · obtain ⟨a, ha, _⟩ := Ct.get_of h
     obtain ⟨b, hb, _⟩ := Ct.get_of (l := m) (i := i) (by omega)
     have hlt : decide ((i : Int) < ((Ct.ptR l).length : Int)) = true := decide_eq_true (by omega)
     by_cases e : a = b
     · exact .to mo_ [] [0, 1, 12, 13] [] 0 ([ye hlt, .sel _ _ _ (el ha), .sel _ _ _ (el hb)] ++ [.eqa _ _ _ _ (e_pt2 a b), na (t := !decide (a = b)) (by simp [e]), inc 25 i (by omega)]) (ih (i + 1) ⟨h, take_st hI ha hb e⟩ (by omega)) (by kernel_rfl)
     · have hne : l ≠ m := fun h2 => by subst h2; rw [ha] at hb; exact e (Option.some.inj hb)
       rw [show decide (l = m) = false from decide_eq_false hne]
       exact fi ([ye hlt, .sel _ _ _ (el ha), .sel _ _ _ (el hb)] ++ [.eqa _ _ _ _ (e_pt2 a b), ye (t := !decide (a = b)) (by simp [e])]) (by kernel_rfl) (by kernel_rfl)
   · have heq : l = m := by rwa [List.take_of_length_le (by omega), List.take_of_length_le (by omega)] at hI
     rw [show decide (l = m) = true from decide_eq_true heq]
     exact fi [na (t := decide ((i : Int) < ((Ct.ptR l).length : Int))) (decide_eq_false (by omega))] (by kernel_rfl) (by kernel_rfl)
 · rw [show decide (l = m) = false from decide_eq_false fun e => hl (by rw [e])]
   exact tr [ye (t := ((Ct.ptR l).length : Int) != ((Ct.ptR m).length : Int)) (by rw [z1, z2]; simp; omega)] (by kernel_rfl)
noncomputable abbrev feqB : Func := fnOf PP 34
theorem e_eqB (l m : List Bool) : Pure PP 34 [.sl (Ct.wnR l), .sl (Ct.wnR m)] (bo (decide (l = m))) := by
 refine .len 0 (l := Ct.wnR l) (by kernel_rfl) rfl fun hm => ?_
 have z1 : (Ct.wnR l).length = l.length := List.length_map ..
 have z2 : (Ct.wnR m).length = m.length := List.length_map ..
 have el : ∀ {l : List Bool} {i : Nat} {a : Bool}, l[i]? = some a → (Ct.wnR l)[i]? = some ([bo a]) := fun {l i a} h => by unfold Ct.wnR; rw [List.getElem?_map, h]; rfl
 unfold maxLen at hm
 by_cases hl : l.length = m.length
 · let X : Nat → St := fun i => at_ feqB [(0, .sl (Ct.wnR l)), (1, .sl (Ct.wnR m)), (12, ni ((Ct.wnR l).length : Int)), (13, ni i)] []
   refine pf (by kernel_rfl) (.to mo_ [] [0, 1, 12, 13] [] 0 [na (t := ((Ct.wnR l).length : Int) != ((Ct.wnR m).length : Int)) (by rw [z1, z2, hl]; simp)] (td' := lp feqB 0) (σ' := X 0) ?_ (by kernel_rfl))
   refine Gd.loop X (fun i => i ≤ l.length ∧ l.take i = m.take i) (fun i => l.length - i) ?_ 0 ⟨Nat.zero_le _, rfl⟩
   intro i ⟨hi, hI⟩ ih
   by_cases h : i < l.length
   · obtain ⟨a, ha, _⟩ := Ct.get_of h
     obtain ⟨b, hb, _⟩ := Ct.get_of (l := m) (i := i) (by omega)
     have hlt : decide ((i : Int) < ((Ct.wnR l).length : Int)) = true := decide_eq_true (by omega)
     by_cases e : a = b
     · exact .to mo_ [] [0, 1, 12, 13] [] 0 ([ye hlt, .sel _ _ _ (el ha), .sel _ _ _ (el hb)] ++ [na (t := a != b) (by simp [e]), inc 25 i (by omega)]) (ih (i + 1) ⟨h, take_st hI ha hb e⟩ (by omega)) (by kernel_rfl)
     · have hne : l ≠ m := fun h2 => by subst h2; rw [ha] at hb; exact e (Option.some.inj hb)
       rw [show decide (l = m) = false from decide_eq_false hne]
       exact fi ([ye hlt, .sel _ _ _ (el ha), .sel _ _ _ (el hb)] ++ [ye (t := a != b) (by simpa using e)]) (by kernel_rfl) (by kernel_rfl)
   · have heq : l = m := by rwa [List.take_of_length_le (by omega), List.take_of_length_le (by omega)] at hI
     rw [show decide (l = m) = true from decide_eq_true heq]
     exact fi [na (t := decide ((i : Int) < ((Ct.wnR l).length : Int))) (decide_eq_false (by omega))] (by kernel_rfl) (by kernel_rfl)
 · rw [show decide (l = m) = false from decide_eq_false fun e => hl (by rw [e])]
   exact tr [ye (t := ((Ct.wnR l).length : Int) != ((Ct.wnR m).length : Int)) (by rw [z1, z2]; simp; omega)] (by kernel_rfl)
end Go.Proofs.YtnpdpjfdgialeaaGreatDoor.E.Pc
namespace Go.Proofs.YtnpdpjfdgialeaaGreatDoor.E.Pc
open Go.RowKit
set_option linter.unusedVariables false
set_option linter.unusedSimpArgs false
noncomputable abbrev fsm : Func := fnOf PP 11
def nuR (p : Ct.Pi) : List V := dR p.tol ++ (dR p.light ++ (dR p.heavy ++ (dR p.str ++ dR p.rough)))
theorem e_same1 (p : Ct.Pi) : Pure PP 11 [.ag p.v, .ag p.v] (bo true) := by
 have hv : p.v = [ni p.id, ni p.home, .sl (Ct.ptR p.rim), .sl (Ct.wnR p.worn), zl p.marks] ++ (dR p.tol ++ (dR p.light ++ (dR p.heavy ++ (dR p.str ++ dR p.rough)))) := rfl
 have en := e_numbers p
 have s0 := e_psame p.tol p.tol
 have s1 := e_psame p.light p.light
 have s2 := e_psame p.heavy p.heavy
 have s3 := e_psame p.str p.str
 have s4 := e_psame p.rough p.rough
 rw [decide_eq_true rfl] at s0 s1 s2 s3 s4
 have c1 := e_eqP p.rim p.rim
 have c2 := e_eqB p.worn p.worn
 have c3 := e_eqI p.marks p.marks
 rw [decide_eq_true rfl] at c1 c2 c3
 let Y : Nat → St := fun i => at_ fsm [(2, .lp 0 0), (3, .lp 1 0), (5, .lp 2 0), (6, .lp 3 0), (12, ni i)] [.bx 30 p.v, .bx 30 p.v, .bx 69 (nuR p), .bx 69 (nuR p)]
 have next : Gd PP 11 (.v (bo true)) (lp fsm 0) (Y 5) := by
  simp only [Y]
  rw [hv]
  unfold nuR
  generalize Ct.ptR p.rim = PR at *
  generalize Ct.wnR p.worn = WR at *
  exact fi [nf, ye (t := p.id == p.id) (by simp), ye (t := p.home == p.home) (by simp), cl c1, yt, cl c2, yt, cl c3] (by kernel_rfl) (by kernel_rfl)
 simp only [Y] at next
 rw [hv] at en next ⊢
 unfold nuR at next
 generalize Ct.ptR p.rim = PR at *
 generalize Ct.wnR p.worn = WR at *
 refine pf (by kernel_rfl) (.to mo_ [] [2, 3, 5, 6, 12] [0, 1, 2, 3] 4 [cl en, cl en] (td' := lp fsm 0) (σ' := at_ fsm [(2, .lp 0 0), (3, .lp 1 0), (5, .lp 2 0), (6, .lp 3 0), (12, ni 0)] [.bx 30 ([ni p.id, ni p.home, .sl PR, .sl WR, zl p.marks] ++ (dR p.tol ++ (dR p.light ++ (dR p.heavy ++ (dR p.str ++ dR p.rough))))), .bx 30 ([ni p.id, ni p.home, .sl PR, .sl WR, zl p.marks] ++ (dR p.tol ++ (dR p.light ++ (dR p.heavy ++ (dR p.str ++ dR p.rough))))), .bx 69 (dR p.tol ++ (dR p.light ++ (dR p.heavy ++ (dR p.str ++ dR p.rough)))), .bx 69 (dR p.tol ++ (dR p.light ++ (dR p.heavy ++ (dR p.str ++ dR p.rough))))]) ?_ (by kernel_rfl))
 refine .to mo_ [] [2, 3, 5, 6, 12] [0, 1, 2, 3] 4 [yt, cl s0, nf] (td' := lp fsm 0) (σ' := at_ fsm [(2, .lp 0 0), (3, .lp 1 0), (5, .lp 2 0), (6, .lp 3 0), (12, ni 1)] [.bx 30 ([ni p.id, ni p.home, .sl PR, .sl WR, zl p.marks] ++ (dR p.tol ++ (dR p.light ++ (dR p.heavy ++ (dR p.str ++ dR p.rough))))), .bx 30 ([ni p.id, ni p.home, .sl PR, .sl WR, zl p.marks] ++ (dR p.tol ++ (dR p.light ++ (dR p.heavy ++ (dR p.str ++ dR p.rough))))), .bx 69 (dR p.tol ++ (dR p.light ++ (dR p.heavy ++ (dR p.str ++ dR p.rough)))), .bx 69 (dR p.tol ++ (dR p.light ++ (dR p.heavy ++ (dR p.str ++ dR p.rough))))]) ?_ (by kernel_rfl)
 refine .to mo_ [] [2, 3, 5, 6, 12] [0, 1, 2, 3] 4 [yt, cl s1, nf] (td' := lp fsm 0) (σ' := at_ fsm [(2, .lp 0 0), (3, .lp 1 0), (5, .lp 2 0), (6, .lp 3 0), (12, ni 2)] [.bx 30 ([ni p.id, ni p.home, .sl PR, .sl WR, zl p.marks] ++ (dR p.tol ++ (dR p.light ++ (dR p.heavy ++ (dR p.str ++ dR p.rough))))), .bx 30 ([ni p.id, ni p.home, .sl PR, .sl WR, zl p.marks] ++ (dR p.tol ++ (dR p.light ++ (dR p.heavy ++ (dR p.str ++ dR p.rough))))), .bx 69 (dR p.tol ++ (dR p.light ++ (dR p.heavy ++ (dR p.str ++ dR p.rough)))), .bx 69 (dR p.tol ++ (dR p.light ++ (dR p.heavy ++ (dR p.str ++ dR p.rough))))]) ?_ (by kernel_rfl)
 refine .to mo_ [] [2, 3, 5, 6, 12] [0, 1, 2, 3] 4 [yt, cl s2, nf] (td' := lp fsm 0) (σ' := at_ fsm [(2, .lp 0 0), (3, .lp 1 0), (5, .lp 2 0), (6, .lp 3 0), (12, ni 3)] [.bx 30 ([ni p.id, ni p.home, .sl PR, .sl WR, zl p.marks] ++ (dR p.tol ++ (dR p.light ++ (dR p.heavy ++ (dR p.str ++ dR p.rough))))), .bx 30 ([ni p.id, ni p.home, .sl PR, .sl WR, zl p.marks] ++ (dR p.tol ++ (dR p.light ++ (dR p.heavy ++ (dR p.str ++ dR p.rough))))), .bx 69 (dR p.tol ++ (dR p.light ++ (dR p.heavy ++ (dR p.str ++ dR p.rough)))), .bx 69 (dR p.tol ++ (dR p.light ++ (dR p.heavy ++ (dR p.str ++ dR p.rough))))]) ?_ (by kernel_rfl)
 refine .to mo_ [] [2, 3, 5, 6, 12] [0, 1, 2, 3] 4 [yt, cl s3, nf] (td' := lp fsm 0) (σ' := at_ fsm [(2, .lp 0 0), (3, .lp 1 0), (5, .lp 2 0), (6, .lp 3 0), (12, ni 4)] [.bx 30 ([ni p.id, ni p.home, .sl PR, .sl WR, zl p.marks] ++ (dR p.tol ++ (dR p.light ++ (dR p.heavy ++ (dR p.str ++ dR p.rough))))), .bx 30 ([ni p.id, ni p.home, .sl PR, .sl WR, zl p.marks] ++ (dR p.tol ++ (dR p.light ++ (dR p.heavy ++ (dR p.str ++ dR p.rough))))), .bx 69 (dR p.tol ++ (dR p.light ++ (dR p.heavy ++ (dR p.str ++ dR p.rough)))), .bx 69 (dR p.tol ++ (dR p.light ++ (dR p.heavy ++ (dR p.str ++ dR p.rough))))]) ?_ (by kernel_rfl)
 exact .to mo_ [] [2, 3, 5, 6, 12] [0, 1, 2, 3] 4 [yt, cl s4, nf] next (by kernel_rfl)
end Go.Proofs.YtnpdpjfdgialeaaGreatDoor.E.Pc
