/-
 PIECE: a piece is the same as itself.
-/
import Derived.Test.YtlgnagnmoleeiaaGreatEzC
import Derived.Test.YtlgnagnmoleeiaaGreatCdA
namespace Go.Proofs.YtlgnagnmoleeiaaGreat.E.Pc
open Go.RowKit
set_option linter.unusedVariables false
set_option linter.unusedSimpArgs false
def rdO (B : List UInt8) (n : Nat) : List HO := [.bx 109 [.sl (byL B), ni (n : Int)]]
section
variable {B : List UInt8} {n k : Nat} {A : List Int} {r : Rat}
theorem e_must (l : List V) : Pure PP 84 [.ip l, bo true] (.tu []) := tr [nf] (by kernel_rfl)
theorem e_ints (hb : B.length ≤ 1000000) (h : W.decI (B.drop n) = (A, k, 0)) (hn : n + k ≤ B.length) : PureT PP 83 (rdO B n) [.lp 0 0] (.io 1 (rdO B (n + k)) (zl A)) := by
 have c := e_wgetints (B.drop n) (by rw [List.length_drop]; omega)
 rw [h] at c
 change Pure PP _ _ (.tu [zl A, ni (k : Int), ni 0]) at c
 exact trT [nL 8 0, nL 12 0, slD B n (by omega), cl c, cl (e_must [.sl (byL B), ni (n : Int)]), nL 25 0, wq 29 ((n : Int) + (k : Int)) ((n + k : Nat) : Int) (by omega), nL 30 0] (by kernel_rfl)
theorem e_rat (hb : B.length ≤ 1000000) (h : decQ (B.drop n) = (r, k, 0)) (hn : n + k ≤ B.length) : PureT PP 85 (rdO B n) [.lp 0 0] (.io 1 (rdO B (n + k)) (.ag (dR r))) := by
 have c := e_rdec (B.drop n) (by rw [List.length_drop]; omega)
 rw [h] at c
 change Pure PP _ _ (.tu [.ag (dR r), ni (k : Int), ni 0]) at c
 exact trT [nL 8 0, nL 12 0, slD B n (by omega), cl c, cl (e_must [.sl (byL B), ni (n : Int)]), nL 25 0, wq 29 ((n : Int) + (k : Int)) ((n + k : Nat) : Int) (by omega), nL 30 0] (by kernel_rfl)
theorem idle1 : Idle PP 82 3 := by
 refine ⟨okF_of (by kernel_rfl), fun cap w hc => ?_⟩
 obtain ⟨x, y, z, rfl⟩ : ∃ x y z, cap = #[x, y, z] := by
  match cap, hc with
  | ⟨[x, y, z]⟩, _ => exact ⟨x, y, z, rfl⟩
 refine callsD_of_wpS Tryz.func82 rfl fun c₀ cs hu => ?_
 apply wpS_seq
 apply wpS_region
 simp [wpOpsS, go_sem, recoverD, hu, Tryz.ntmps82, Exit.thenS]
 apply wpS_seq
 apply wpS_region
 have hn : ∀ w, (binOp BinOp.neq 20 .nilIface .nilIface).run PP w = .ok (.bool false) w := fun _ => by kernel_rfl
 have hg : ∀ w, (eqGuard BinOp.neq 20 (.tmp 5) (.const .nilIface) .nilIface .nilIface).run PP w = .ok () w := fun _ => by kernel_rfl
 simp [wpOpsS, go_sem, Exit.thenS, hn, hg]
 refine wpS_cond (t := false) (by simp [Act.eval, Array.replicate]) ?_
 simp only [Bool.false_eq_true, if_false]
 refine wpS_of_wp (wp_skip ?_)
 cases c₀
 simp_all [bodyPostS, results, Tryz.results82]
end
end Go.Proofs.YtlgnagnmoleeiaaGreat.E.Pc
namespace Go.Proofs.YtlgnagnmoleeiaaGreat.E.Pc
open Go.RowKit
set_option linter.unusedVariables false
set_option linter.unusedSimpArgs false
noncomputable abbrev fDc : Func := fnOf PP 18
/-- What is being read: the piece. -/
def pcB (p : Ct.Pi) (m : V) (q : List V) : HO := .bx 30 ([ni p.id, ni p.home, .ow 4, .ow 5, m] ++ q)
def zer4 : List V := [bo false, .nl, bo false, .nl]
def z20 : List V := zer4 ++ (zer4 ++ (zer4 ++ (zer4 ++ zer4)))
noncomputable abbrev RDd (p : Ct.Pi) (n : Nat) : RD := .df (2 + 1) (dfr 82 [0, 1, 2]) (.tu [.ag p.v, ni (n : Int), ni 0])
noncomputable abbrev GDc (p : Ct.Pi) (n : Nat) (td : List Item) (σ : St) : Prop := Gd PP 18 (RDd p n) td σ
noncomputable def dcS (B : List UInt8) (p : Ct.Pi) (n : Nat) (i j : Nat) (m : List (Nat × V)) : St := at_ fDc ([(2, .lp 0 0), (3, .lp 1 0), (4, .lp 2 0), (5, .lp 3 0)] ++ m) ([pcB p .nl z20, .bx 3 [ni 0], .bx 35 [ni 0]] ++ (rdO B n ++ [.rw 93 2 (Ct.ptR (p.rim.take i)), .rw 4 1 (Ct.wnR (p.worn.take j))]))
section
variable {B : List UInt8} {p : Ct.Pi} {n k N : Nat} {A : List Int} {r : Rat} {i : Nat}
theorem crn_at (h : i < p.rim.length) : (zs (crn p.rim))[2 * i]? = some [ni (cpt p.rim i).1] ∧ (zs (crn p.rim))[2 * i + 1]? = some [ni (cpt p.rim i).2] := by
 have key : ∀ (P : List (Int × Int)) (i : Nat), i < P.length → (crn P)[2 * i]? = some (cpt P i).1 ∧ (crn P)[2 * i + 1]? = some (cpt P i).2 := by
  intro P
  induction P with
  | nil => intro i h; cases h
  | cons c P ih =>
   intro i h
   have e : crn (c :: P) = c.1 :: c.2 :: crn P := rfl
   rw [e]
   cases i with
   | zero => exact ⟨rfl, rfl⟩
   | succ i =>
     obtain ⟨h1, h2⟩ := ih i (by simpa using h)
     rw [show 2 * (i + 1) = 2 * i + 1 + 1 by omega]
     exact ⟨h1, h2⟩
 obtain ⟨h1, h2⟩ := key p.rim i h
 exact ⟨zs_at h1, zs_at h2⟩
theorem ptR_next (h : i < p.rim.length) : Ct.ptR (p.rim.take i) ++ [[ni (cpt p.rim i).1, ni (cpt p.rim i).2]] = Ct.ptR (p.rim.take (i + 1)) := by
 unfold Ct.ptR cpt
 rw [List.take_add_one, List.getD_eq_getElem?_getD, List.getElem?_eq_getElem h, List.map_append]
 rfl
theorem wnR_next {w : Bool} (h : p.worn[i]? = some w) : Ct.wnR (p.worn.take i) ++ [[bo w]] = Ct.wnR (p.worn.take (i + 1)) := by
 unfold Ct.wnR
 rw [List.take_add_one, h, List.map_append]
 rfl
theorem wnI_at {w : Bool} (h : p.worn[i]? = some w) : (zs (wnI p.worn))[i]? = some [ni (if w then 1 else 0)] := zs_at (by unfold wnI; rw [List.getElem?_map, h]; rfl)
/-- The corners. -/
theorem dc_rim (h : En p) (next : GDc p N (lp fDc 1) (dcS B p n p.rim.length 0 [(62, zl (wnI p.worn)), (63, ni (p.worn.length : Int)), (64, ni ((0 : Nat) : Int))])) : GDc p N (lp fDc 0) (dcS B p n 0 0 [(7, zl (crn p.rim)), (8, zl (wnI p.worn)), (9, ni ((2 * 0 : Nat) : Int))]) := by
 have nr := h.nr
 have hcl := crn_len p.rim
 refine Gd.loop (fun i => dcS B p n i 0 [(7, zl (crn p.rim)), (8, zl (wnI p.worn)), (9, ni ((2 * i : Nat) : Int))]) (fun i => i ≤ p.rim.length) (fun i => p.rim.length - i) ?_ 0 (Nat.zero_le _)
 intro i hi ih
 have hzl : (zs (crn p.rim)).length = 2 * p.rim.length := by rw [zs_len, hcl]
 by_cases g : i < p.rim.length
 · obtain ⟨e1, e2⟩ := crn_at g
   have nx := ih (i + 1) g (by omega)
   have hap := ptR_next g
   have hl : (Ct.ptR (p.rim.take (i + 1))).length ≤ 1000 := by
    have : (Ct.ptR (p.rim.take (i + 1))).length = (p.rim.take (i + 1)).length := List.length_map ..
    rw [this, List.length_take]
    omega
   have hx : decide (((2 * i : Nat) : Int) < ((2 * p.rim.length : Nat) : Int)) = true := decide_eq_true (by omega)
   unfold dcS at nx ⊢
   unfold pcB rdO at nx ⊢
   generalize Ct.ptR (p.rim.take i) = A at *
   generalize Ct.ptR (p.rim.take (i + 1)) = A' at *
   generalize cpt p.rim i = c at *
   exact .to mo_ [.mv 4 7] [2, 3, 4, 5, 7, 8, 9] [0, 1, 2, 3, 4, 5] 6 [.eqv 43 (ni ((zs (crn p.rim)).length : Int)) (ni ((2 * p.rim.length : Nat) : Int)) (by rw [hzl]), ye hx, .sel _ _ _ e1, inc 55 (2 * i) (by omega), .sel _ _ _ e2, .app A [[ni c.1, ni c.2]] A' 1000 hap (show 0 < 1 by decide) hl, wq 46 (((2 * i : Nat) : Int) + 2) ((2 * (i + 1) : Nat) : Int) (by omega)] nx (by kernel_rfl)
 · have e : i = p.rim.length := by omega
   subst e
   have hx : decide (((2 * p.rim.length : Nat) : Int) < ((2 * p.rim.length : Nat) : Int)) = false := decide_eq_false (by omega)
   unfold dcS at next ⊢
   unfold pcB rdO at next ⊢
   exact .to mo_ [] [2, 3, 4, 5, 62, 63, 64] [0, 1, 2, 3, 4, 5] 6 [.eqv 43 (ni ((zs (crn p.rim)).length : Int)) (ni ((2 * p.rim.length : Nat) : Int)) (by rw [hzl]), na hx, .eqv 63 (ni ((zs (wnI p.worn)).length : Int)) (ni (p.worn.length : Int)) (by rw [zs_len, wnI_len])] next (by kernel_rfl)
/-- The worn edges. -/
theorem dc_worn (h : En p) {i : Nat} (next : GDc p N (lp fDc 1) (dcS B p n i p.worn.length [(62, zl (wnI p.worn)), (63, ni (p.worn.length : Int)), (64, ni (p.worn.length : Int))])) : GDc p N (lp fDc 1) (dcS B p n i 0 [(62, zl (wnI p.worn)), (63, ni (p.worn.length : Int)), (64, ni ((0 : Nat) : Int))]) := by
 have nw := h.nw
 refine Gd.loop (fun j => dcS B p n i j [(62, zl (wnI p.worn)), (63, ni (p.worn.length : Int)), (64, ni (j : Int))]) (fun j => j ≤ p.worn.length) (fun j => p.worn.length - j) ?_ 0 (Nat.zero_le _)
 intro j hj ih
 by_cases g : j < p.worn.length
 · obtain ⟨w, hw, _⟩ := Ct.get_of g
   have e1 := wnI_at hw
   have nx := ih (j + 1) g (by omega)
   have hap := wnR_next hw
   have hl : (Ct.wnR (p.worn.take (j + 1))).length ≤ 1000 := by
    have : (Ct.wnR (p.worn.take (j + 1))).length = (p.worn.take (j + 1)).length := List.length_map ..
    rw [this, List.length_take]
    omega
   have hx : decide ((j : Int) < (p.worn.length : Int)) = true := decide_eq_true (by omega)
   unfold dcS at nx ⊢
   unfold pcB rdO at nx ⊢
   generalize Ct.ptR (p.rim.take i) = D at *
   generalize Ct.wnR (p.worn.take j) = A at *
   generalize Ct.wnR (p.worn.take (j + 1)) = A' at *
   cases w with
   | true => exact .to mo_ [.mv 5 7] [2, 3, 4, 5, 62, 63, 64] [0, 1, 2, 3, 4, 5] 6 [ye hx, .sel _ _ _ e1, nf, cl (e_must [.sl (byL B), ni (n : Int)]), .app A [[bo true]] A' 1000 hap (show 0 < 1 by decide) hl, inc 83 j (by omega)] nx (by kernel_rfl)
   | false => exact .to mo_ [.mv 5 7] [2, 3, 4, 5, 62, 63, 64] [0, 1, 2, 3, 4, 5] 6 [ye hx, .sel _ _ _ e1, yt, cl (e_must [.sl (byL B), ni (n : Int)]), .app A [[bo false]] A' 1000 hap (show 0 < 1 by decide) hl, inc 83 j (by omega)] nx (by kernel_rfl)
 · have e : j = p.worn.length := by omega
   subst e
   exact next
/-- The marks, the numbers, the check. -/
theorem dc_end {n0 n1 n2 n3 n4 n5 n6 : Nat} (i4 : PureT PP 83 (rdO B n0) [.lp 0 0] (.io 1 (rdO B n1) (zl p.marks)))
  (r1 : PureT PP 85 (rdO B n1) [.lp 0 0] (.io 1 (rdO B n2) (.ag (dR p.tol)))) (r2 : PureT PP 85 (rdO B n2) [.lp 0 0] (.io 1 (rdO B n3) (.ag (dR p.light)))) (r3 : PureT PP 85 (rdO B n3) [.lp 0 0] (.io 1 (rdO B n4) (.ag (dR p.heavy)))) (r4 : PureT PP 85 (rdO B n4) [.lp 0 0] (.io 1 (rdO B n5) (.ag (dR p.str)))) (r5 : PureT PP 85 (rdO B n5) [.lp 0 0] (.io 1 (rdO B n6) (.ag (dR p.rough))))
  (cv : Pure PP 12 [.ag p.v] (ni 0)) : GDc p n6 (lp fDc 1) (dcS B p n0 p.rim.length p.worn.length [(62, zl (wnI p.worn)), (63, ni (p.worn.length : Int)), (64, ni (p.worn.length : Int))]) := by
 have hx : decide ((p.worn.length : Int) < (p.worn.length : Int)) = false := decide_eq_false (by omega)
 have hv : p.v = [ni p.id, ni p.home, .sl (Ct.ptR p.rim), .sl (Ct.wnR p.worn), zl p.marks] ++ (dR p.tol ++ (dR p.light ++ (dR p.heavy ++ (dR p.str ++ dR p.rough)))) := rfl
 have t1 : p.rim.take p.rim.length = p.rim := List.take_length
 have t2 : p.worn.take p.worn.length = p.worn := List.take_length
 unfold dcS
 rw [t1, t2]
 unfold GDc RDd pcB
 unfold rdO at *
 rw [hv] at cv ⊢
 generalize Ct.ptR p.rim = PR at *
 generalize Ct.wnR p.worn = WR at *
 exact fiD idle1 [na hx, .lend _ _ _ _ [3] i4, .lend _ _ _ _ [3] r1, .lend _ _ _ _ [3] r2, .lend _ _ _ _ [3] r3, .lend _ _ _ _ [3] r4, .lend _ _ _ _ [3] r5, cl cv, cl (e_must [.sl (byL B), ni (n6 : Int)]), nL 109 3] (by kernel_rfl) (by kernel_rfl)
end
end Go.Proofs.YtlgnagnmoleeiaaGreat.E.Pc
namespace Go.Proofs.YtlgnagnmoleeiaaGreat.E.Pc
open Go.RowKit
set_option linter.unusedVariables false
set_option linter.unusedSimpArgs false
section
variable {B t : List UInt8} {p : Ct.Pi} {n k N : Nat} {A : List Int} {r : Rat} {i : Nat}
theorem e_pdec0 (h : En p) {n1 n2 n3 n4 n5 n6 n7 n8 n9 : Nat} (i1 : PureT PP 83 (rdO B 0) [.lp 0 0] (.io 1 (rdO B n1) (zl [p.id, p.home]))) (i2 : PureT PP 83 (rdO B n1) [.lp 0 0] (.io 1 (rdO B n2) (zl (crn p.rim)))) (i3 : PureT PP 83 (rdO B n2) [.lp 0 0] (.io 1 (rdO B n3) (zl (wnI p.worn))))
  (i4 : PureT PP 83 (rdO B n3) [.lp 0 0] (.io 1 (rdO B n4) (zl p.marks)))
  (r1 : PureT PP 85 (rdO B n4) [.lp 0 0] (.io 1 (rdO B n5) (.ag (dR p.tol)))) (r2 : PureT PP 85 (rdO B n5) [.lp 0 0] (.io 1 (rdO B n6) (.ag (dR p.light)))) (r3 : PureT PP 85 (rdO B n6) [.lp 0 0] (.io 1 (rdO B n7) (.ag (dR p.heavy)))) (r4 : PureT PP 85 (rdO B n7) [.lp 0 0] (.io 1 (rdO B n8) (.ag (dR p.str)))) (r5 : PureT PP 85 (rdO B n8) [.lp 0 0] (.io 1 (rdO B n9) (.ag (dR p.rough))))
  (cv : Pure PP 12 [.ag p.v] (ni 0)) : Pure PP 18 [.sl (byL B)] (.tu [.ag p.v, ni (n9 : Int), ni 0]) := by
 have hd := dc_rim h (dc_worn h (dc_end i4 r1 r2 r3 r4 r5 cv))
 have hcl := crn_len p.rim
 have nr := h.nr
 refine pf (by kernel_rfl) (.to mo_ [] [0, 2, 3, 4] [0, 1, 2] 3 [] (td' := rg fDc 1) (σ' := at_ fDc [(0, .sl (byL B)), (2, .lp 0 0), (3, .lp 1 0), (4, .lp 2 0)] [.bx 30 ([ni 0, ni 0, .nl, .nl, .nl] ++ z20), .bx 3 [ni 0], .bx 35 [ni 0]]) ?_ (by kernel_rfl))
 refine Gd.defer (t := 12) (n := 2) (g := 82) (bs := [0, 1, 2]) (by kernel_rfl) ?_
 have e0 : (zs [p.id, p.home])[0]? = some [ni p.id] := rfl
 have e1 : (zs [p.id, p.home])[1]? = some [ni p.home] := rfl
 have m0 : ni (((2 * p.rim.length : Nat) : Int).tmod 2) = ni 0 := by
  rw [show (2 : Int) = ((2 : Nat) : Int) from rfl, tmod_, Nat.mul_mod_right]
  rfl
 have hzl : (zs (crn p.rim)).length = 2 * p.rim.length := by rw [zs_len, hcl]
 unfold dcS at hd
 unfold pcB at hd
 unfold rdO at *
 exact .to mo_ [.oc 0 2 (.rw 93 2 []), .oc 0 3 (.rw 4 1 [])] [2, 3, 4, 5, 7, 8, 9] [0, 1, 2, 3, 4, 5] 6 [.lend _ _ _ _ [3] i1, .lend _ _ _ _ [3] i2, .lend _ _ _ _ [3] i3, yt, .eqv 28 (ni ((zs (crn p.rim)).length : Int)) (ni ((2 * p.rim.length : Nat) : Int)) (by rw [hzl]), .eqv 29 _ _ m0, cl (e_must [.sl (byL B), ni (n3 : Int)]), .sel _ _ _ e0, .sel _ _ _ e1] hd (by kernel_rfl)
theorem Fs.vq (h : Fs r) : VQ r := by
 have key : ∀ x : Int, (digs x.natAbs).length ≤ 100 → VZ x := fun x hx => by
  unfold VZ
  have : (znL x).length = (digs x.natAbs).length + 1 := by simp [znL]
  rw [this]
  exact ⟨by omega, by omega⟩
 exact ⟨key _ h.1, key _ h.2⟩
theorem drop_pre (s u : List UInt8) : (s ++ u).drop s.length = u := List.drop_left
theorem dropN {s u : List UInt8} (h : B.drop n = s ++ u) : B.drop (n + s.length) = u := by rw [← List.drop_drop, h]; exact drop_pre s u
theorem dropL {s u : List UInt8} (h : B.drop n = s ++ u) (h0 : 0 < s.length) : n + s.length ≤ B.length := by
 have := congrArg List.length h
 rw [List.length_drop, List.length_append] at this
 omega
/-- A code is read back. -/
theorem e_pdec (h : En p) (cv : Pure PP 12 [.ag p.v] (ni 0)) (ht : t.length ≤ 900000) : Pure PP 18 [.sl (byL (encP p ++ t))] (.tu [.ag p.v, ni ((encP p).length : Int), ni 0]) := by
 have hcl := crn_len p.rim
 have hwl := wnI_len p.worn
 have i1 : ∀ x ∈ [p.id, p.home], W.Is64 x := fun x hx => by
  simp at hx
  rcases hx with rfl | rfl
  · exact h.id
  · exact h.home
 have nr := h.nr
 have nw := h.nw
 have nm := h.nm
 have l1 := wl_ [p.id, p.home] (Nat.le_of_ble_eq_true rfl)
 have l2 := wl_ (crn p.rim) (by omega)
 have l3 := wl_ (wnI p.worn) (by omega)
 have l4 := wl_ p.marks (by omega)
 have q0 := h.q p.tol (by simp [numP]); have q1 := h.q p.light (by simp [numP]); have q2 := h.q p.heavy (by simp [numP]); have q3 := h.q p.str (by simp [numP]); have q4 := h.q p.rough (by simp [numP])
 have n0 := q0.len; have n1 := q1.len; have n2 := q2.len; have n3 := q3.len; have n4 := q4.len
 have v1 := W.codecI.back [p.id, p.home] ⟨i1, ⟨show (-9223372036854775808 : Int) ≤ 2 by omega, show (2 : Int) ≤ 9223372036854775807 by omega⟩⟩
 have v2 := W.codecI.back (crn p.rim) ⟨crn_64 h.r, ⟨by omega, by omega⟩⟩
 have v3 := W.codecI.back (wnI p.worn) ⟨wnI_64, ⟨by omega, by omega⟩⟩
 have v4 := W.codecI.back p.marks ⟨h.m, ⟨by omega, by omega⟩⟩
 have w0 := codecQ.back p.tol q0.vq
 have w1 := codecQ.back p.light q1.vq
 have w2 := codecQ.back p.heavy q2.vq
 have w3 := codecQ.back p.str q3.vq
 have w4 := codecQ.back p.rough q4.vq
 have hB : encP p ++ t = W.encI [p.id, p.home] ++ (W.encI (crn p.rim) ++ (W.encI (wnI p.worn) ++ (W.encI p.marks ++ (encQ p.tol ++ (encQ p.light ++ (encQ p.heavy ++ (encQ p.str ++ (encQ p.rough ++ t)))))))) := by simp [encP, hdP, numP, List.append_assoc]
 have hlen : (encP p).length = 0 + (W.encI [p.id, p.home]).length + (W.encI (crn p.rim)).length + (W.encI (wnI p.worn)).length + (W.encI p.marks).length + (encQ p.tol).length + (encQ p.light).length + (encQ p.heavy).length + (encQ p.str).length + (encQ p.rough).length := by simp [encP, hdP, numP]; omega
 have hb : (encP p ++ t).length ≤ 1000000 := by rw [List.length_append]; omega
 rw [hlen]
 generalize W.encI [p.id, p.home] = s1 at *
 generalize W.encI (crn p.rim) = s2 at *
 generalize W.encI (wnI p.worn) = s3 at *
 generalize W.encI p.marks = s4 at *
 generalize encQ p.tol = s5 at *
 generalize encQ p.light = s6 at *
 generalize encQ p.heavy = s7 at *
 generalize encQ p.str = s8 at *
 generalize encQ p.rough = s9 at *
 generalize encP p ++ t = B at *
 have d0 : B.drop 0 = _ := hB
 have d1 := dropN d0
 have d2 := dropN d1
 have d3 := dropN d2
 have d4 := dropN d3
 have d5 := dropN d4
 have d6 := dropN d5
 have d7 := dropN d6
 have d8 := dropN d7
 exact e_pdec0 h (e_ints hb (by rw [d0]; exact v1 _) (dropL d0 (by omega))) (e_ints hb (by rw [d1]; exact v2 _) (dropL d1 (by omega))) (e_ints hb (by rw [d2]; exact v3 _) (dropL d2 (by omega))) (e_ints hb (by rw [d3]; exact v4 _) (dropL d3 (by omega)))
  (e_rat hb (by rw [d4]; exact w0 _) (dropL d4 (by omega))) (e_rat hb (by rw [d5]; exact w1 _) (dropL d5 (by omega))) (e_rat hb (by rw [d6]; exact w2 _) (dropL d6 (by omega))) (e_rat hb (by rw [d7]; exact w3 _) (dropL d7 (by omega))) (e_rat hb (by rw [d8]; exact w4 _) (dropL d8 (by omega))) cv
end
end Go.Proofs.YtlgnagnmoleeiaaGreat.E.Pc
namespace Go.Proofs.YtlgnagnmoleeiaaGreat.E.Pc
open Go.RowKit
set_option linter.unusedVariables false
set_option linter.unusedSimpArgs false
theorem take_st {α : Type} {l m : List α} {i : Nat} {a b : α} (h : l.take i = m.take i) (ha : l[i]? = some a) (hb : m[i]? = some b) (e : a = b) : l.take (i + 1) = m.take (i + 1) := by
 rw [List.take_add_one, List.take_add_one, h, ha, hb, e]
noncomputable abbrev feq : Func := fnOf PP 146
theorem e_eqI (l m : List Int) : Pure PP 146 [zl l, zl m] (bo (decide (l = m))) := by
 refine .len 0 (l := zs l) (by kernel_rfl) rfl fun hm => ?_
 have z1 := zs_len l
 have z2 := zs_len m
 unfold maxLen at hm
 by_cases hl : l.length = m.length
 · let X : Nat → St := fun i => at_ feq [(0, zl l), (1, zl m), (12, ni ((zs l).length : Int)), (13, ni i)] []
   refine pf (by kernel_rfl) (.to mo_ [] [0, 1, 12, 13] [] 0 [na (t := ((zs l).length : Int) != ((zs m).length : Int)) (by rw [z1, z2, hl]; simp)] (td' := lp feq 0) (σ' := X 0) ?_ (by kernel_rfl))
   refine Gd.loop X (fun i => i ≤ l.length ∧ l.take i = m.take i) (fun i => l.length - i) ?_ 0 ⟨Nat.zero_le _, rfl⟩
   intro i ⟨hi, hI⟩ ih
   by_cases h : i < l.length
   · obtain ⟨a, ha, _⟩ := Ct.get_of h
     obtain ⟨b, hb, _⟩ := Ct.get_of (l := m) (i := i) (by omega)
     have hlt : decide ((i : Int) < ((zs l).length : Int)) = true := decide_eq_true (by omega)
     by_cases e : a = b
     · exact .to mo_ [] [0, 1, 12, 13] [] 0 ([ye hlt, .sel _ _ _ (zs_at ha), .sel _ _ _ (zs_at hb)] ++ [na (t := a != b) (by simp [e]), inc 25 i (by omega)]) (ih (i + 1) ⟨h, take_st hI ha hb e⟩ (by omega)) (by kernel_rfl)
     · have hne : l ≠ m := fun h2 => by subst h2; rw [ha] at hb; exact e (Option.some.inj hb)
       rw [show decide (l = m) = false from decide_eq_false hne]
       exact fi ([ye hlt, .sel _ _ _ (zs_at ha), .sel _ _ _ (zs_at hb)] ++ [ye (t := a != b) (by simp [e])]) (by kernel_rfl) (by kernel_rfl)
   · have heq : l = m := by rwa [List.take_of_length_le (by omega), List.take_of_length_le (by omega)] at hI
     rw [show decide (l = m) = true from decide_eq_true heq]
     exact fi [na (t := decide ((i : Int) < ((zs l).length : Int))) (decide_eq_false (by omega))] (by kernel_rfl) (by kernel_rfl)
 · rw [show decide (l = m) = false from decide_eq_false fun e => hl (by rw [e])]
   exact tr [ye (t := ((zs l).length : Int) != ((zs m).length : Int)) (by rw [z1, z2]; simp; omega)] (by kernel_rfl)
theorem e_psame1 (x y : Int) : Pure PP 192 [.ag (dI x), .ag (dI y)] (bo (decide (x = y))) := by
 by_cases hs : decide (x < 0) = decide (y < 0)
 · have hd : decide (x = y) = decide (digs x.natAbs = digs y.natAbs) := by
    rw [decide_eq_decide]
    refine ⟨fun e => by rw [e], fun heq => ?_⟩
    have h2 : (x.natAbs : Int) = (y.natAbs : Int) := by rw [← val_ (x := x), ← val_ (x := y), heq]
    by_cases h4 : x < 0 <;> by_cases h5 : y < 0 <;> simp [h4, h5] at hs <;> omega
   rw [hd]
   exact tr [ye (t := decide (x < 0) == decide (y < 0)) (by rw [hs]; simp), cl (e_eqI (digs x.natAbs) (digs y.natAbs))] (by kernel_rfl)
 · rw [decide_eq_false (fun e => hs (by rw [e]))]
   exact tr [na (t := decide (x < 0) == decide (y < 0)) (by simpa using hs)] (by kernel_rfl)
theorem e_psame (r t : Rat) : Pure PP 143 [.ag (dR r), .ag (dR t)] (bo (decide (r = t))) := by
 by_cases h : r.num = t.num
 · rw [show decide (r = t) = decide (dq r = dq t) from decide_eq_decide.2 ⟨fun e => by rw [e], dq_inj h⟩]
   exact tr [cl (e_psame1 r.num t.num), ye (decide_eq_true h), cl (e_psame1 (dq r) (dq t))] (by kernel_rfl)
 · rw [show decide (r = t) = false from decide_eq_false fun e => h (by rw [e])]
   exact tr [cl (e_psame1 r.num t.num), na (decide_eq_false h)] (by kernel_rfl)
/-- Two points are compared. -/
theorem e_pt2 (a b : Int × Int) : EqA PP 93 ([a.1, a.2].map ni) ([b.1, b.2].map ni) (decide (a = b)) := by
 have h := EqA.str (P := PP) (T := 93) (n := 2) (by kernel_rfl) (xs := [a.1, a.2]) (ys := [b.1, b.2]) rfl rfl
 have e : decide ([a.1, a.2] = [b.1, b.2]) = decide (a = b) := decide_eq_decide.2 ⟨fun h => by
  simp only [List.cons.injEq, and_true] at h
  exact Prod.ext h.1 h.2, fun h => by rw [h]⟩
 rw [e] at h
 exact h
noncomputable abbrev feqP : Func := fnOf PP 144
theorem e_eqP (l m : List (Int × Int)) : Pure PP 144 [.sl (Ct.ptR l), .sl (Ct.ptR m)] (bo (decide (l = m))) := by
 refine .len 0 (l := Ct.ptR l) (by kernel_rfl) rfl fun hm => ?_
 have z1 : (Ct.ptR l).length = l.length := List.length_map ..
 have z2 : (Ct.ptR m).length = m.length := List.length_map ..
 have el : ∀ {l : List (Int × Int)} {i : Nat} {a : (Int × Int)}, l[i]? = some a → (Ct.ptR l)[i]? = some ([ni a.1, ni a.2]) := fun {l i a} h => by unfold Ct.ptR; rw [List.getElem?_map, h]; rfl
 unfold maxLen at hm
 by_cases hl : l.length = m.length
 · let X : Nat → St := fun i => at_ feqP [(0, .sl (Ct.ptR l)), (1, .sl (Ct.ptR m)), (12, ni ((Ct.ptR l).length : Int)), (13, ni i)] []
   refine pf (by kernel_rfl) (.to mo_ [] [0, 1, 12, 13] [] 0 [na (t := ((Ct.ptR l).length : Int) != ((Ct.ptR m).length : Int)) (by rw [z1, z2, hl]; simp)] (td' := lp feqP 0) (σ' := X 0) ?_ (by kernel_rfl))
   refine Gd.loop X (fun i => i ≤ l.length ∧ l.take i = m.take i) (fun i => l.length - i) ?_ 0 ⟨Nat.zero_le _, rfl⟩
   intro i ⟨hi, hI⟩ ih
   by_cases h : i < l.length
   · obtain ⟨a, ha, _⟩ := Ct.get_of h
     obtain ⟨b, hb, _⟩ := Ct.get_of (l := m) (i := i) (by omega)
     have hlt : decide ((i : Int) < ((Ct.ptR l).length : Int)) = true := decide_eq_true (by omega)
     by_cases e : a = b
     · exact .to mo_ [] [0, 1, 12, 13] [] 0 ([ye hlt, .sel _ _ _ (el ha), .sel _ _ _ (el hb)] ++ [.eqa _ _ _ _ (e_pt2 a b), na (t := !decide (a = b)) (by simp [e]), inc 25 i (by omega)]) (ih (i + 1) ⟨h, take_st hI ha hb e⟩ (by omega)) (by kernel_rfl)
     · have hne : l ≠ m := fun h2 => by subst h2; rw [ha] at hb; exact e (Option.some.inj hb)
       rw [show decide (l = m) = false from decide_eq_false hne]
       exact fi ([ye hlt, .sel _ _ _ (el ha), .sel _ _ _ (el hb)] ++ [.eqa _ _ _ _ (e_pt2 a b), ye (t := !decide (a = b)) (by simp [e])]) (by kernel_rfl) (by kernel_rfl)
   · have heq : l = m := by rwa [List.take_of_length_le (by omega), List.take_of_length_le (by omega)] at hI
     rw [show decide (l = m) = true from decide_eq_true heq]
     exact fi [na (t := decide ((i : Int) < ((Ct.ptR l).length : Int))) (decide_eq_false (by omega))] (by kernel_rfl) (by kernel_rfl)
 · rw [show decide (l = m) = false from decide_eq_false fun e => hl (by rw [e])]
   exact tr [ye (t := ((Ct.ptR l).length : Int) != ((Ct.ptR m).length : Int)) (by rw [z1, z2]; simp; omega)] (by kernel_rfl)
noncomputable abbrev feqB : Func := fnOf PP 145
theorem e_eqB (l m : List Bool) : Pure PP 145 [.sl (Ct.wnR l), .sl (Ct.wnR m)] (bo (decide (l = m))) := by
 refine .len 0 (l := Ct.wnR l) (by kernel_rfl) rfl fun hm => ?_
 have z1 : (Ct.wnR l).length = l.length := List.length_map ..
 have z2 : (Ct.wnR m).length = m.length := List.length_map ..
 have el : ∀ {l : List Bool} {i : Nat} {a : Bool}, l[i]? = some a → (Ct.wnR l)[i]? = some ([bo a]) := fun {l i a} h => by unfold Ct.wnR; rw [List.getElem?_map, h]; rfl
 unfold maxLen at hm
 by_cases hl : l.length = m.length
 · let X : Nat → St := fun i => at_ feqB [(0, .sl (Ct.wnR l)), (1, .sl (Ct.wnR m)), (12, ni ((Ct.wnR l).length : Int)), (13, ni i)] []
   refine pf (by kernel_rfl) (.to mo_ [] [0, 1, 12, 13] [] 0 [na (t := ((Ct.wnR l).length : Int) != ((Ct.wnR m).length : Int)) (by rw [z1, z2, hl]; simp)] (td' := lp feqB 0) (σ' := X 0) ?_ (by kernel_rfl))
   refine Gd.loop X (fun i => i ≤ l.length ∧ l.take i = m.take i) (fun i => l.length - i) ?_ 0 ⟨Nat.zero_le _, rfl⟩
   intro i ⟨hi, hI⟩ ih
   by_cases h : i < l.length
   · obtain ⟨a, ha, _⟩ := Ct.get_of h
     obtain ⟨b, hb, _⟩ := Ct.get_of (l := m) (i := i) (by omega)
     have hlt : decide ((i : Int) < ((Ct.wnR l).length : Int)) = true := decide_eq_true (by omega)
     by_cases e : a = b
     · exact .to mo_ [] [0, 1, 12, 13] [] 0 ([ye hlt, .sel _ _ _ (el ha), .sel _ _ _ (el hb)] ++ [na (t := a != b) (by simp [e]), inc 25 i (by omega)]) (ih (i + 1) ⟨h, take_st hI ha hb e⟩ (by omega)) (by kernel_rfl)
     · have hne : l ≠ m := fun h2 => by subst h2; rw [ha] at hb; exact e (Option.some.inj hb)
       rw [show decide (l = m) = false from decide_eq_false hne]
       exact fi ([ye hlt, .sel _ _ _ (el ha), .sel _ _ _ (el hb)] ++ [ye (t := a != b) (by simpa using e)]) (by kernel_rfl) (by kernel_rfl)
   · have heq : l = m := by rwa [List.take_of_length_le (by omega), List.take_of_length_le (by omega)] at hI
     rw [show decide (l = m) = true from decide_eq_true heq]
     exact fi [na (t := decide ((i : Int) < ((Ct.wnR l).length : Int))) (decide_eq_false (by omega))] (by kernel_rfl) (by kernel_rfl)
 · rw [show decide (l = m) = false from decide_eq_false fun e => hl (by rw [e])]
   exact tr [ye (t := ((Ct.wnR l).length : Int) != ((Ct.wnR m).length : Int)) (by rw [z1, z2]; simp; omega)] (by kernel_rfl)
end Go.Proofs.YtlgnagnmoleeiaaGreat.E.Pc
namespace Go.Proofs.YtlgnagnmoleeiaaGreat.E.Pc
open Go.RowKit
set_option linter.unusedVariables false
set_option linter.unusedSimpArgs false
noncomputable abbrev fsm : Func := fnOf PP 78
def nuR (p : Ct.Pi) : List V := dR p.tol ++ (dR p.light ++ (dR p.heavy ++ (dR p.str ++ dR p.rough)))
theorem e_same1 (p : Ct.Pi) : Pure PP 78 [.ag p.v, .ag p.v] (bo true) := by
 have hv : p.v = [ni p.id, ni p.home, .sl (Ct.ptR p.rim), .sl (Ct.wnR p.worn), zl p.marks] ++ (dR p.tol ++ (dR p.light ++ (dR p.heavy ++ (dR p.str ++ dR p.rough)))) := rfl
 have en := e_numbers p
 have s0 := e_psame p.tol p.tol
 have s1 := e_psame p.light p.light
 have s2 := e_psame p.heavy p.heavy
 have s3 := e_psame p.str p.str
 have s4 := e_psame p.rough p.rough
 rw [decide_eq_true rfl] at s0 s1 s2 s3 s4
 have c1 := e_eqP p.rim p.rim
 have c2 := e_eqB p.worn p.worn
 have c3 := e_eqI p.marks p.marks
 rw [decide_eq_true rfl] at c1 c2 c3
 let Y : Nat → St := fun i => at_ fsm [(2, .lp 0 0), (3, .lp 1 0), (5, .lp 2 0), (6, .lp 3 0), (12, ni i)] [.bx 30 p.v, .bx 30 p.v, .bx 96 (nuR p), .bx 96 (nuR p)]
 have next : Gd PP 78 (.v (bo true)) (lp fsm 0) (Y 5) := by
  simp only [Y]
  rw [hv]
  unfold nuR
  generalize Ct.ptR p.rim = PR at *
  generalize Ct.wnR p.worn = WR at *
  exact fi [nf, ye (t := p.id == p.id) (by simp), ye (t := p.home == p.home) (by simp), cl c1, yt, cl c2, yt, cl c3] (by kernel_rfl) (by kernel_rfl)
 simp only [Y] at next
 rw [hv] at en next ⊢
 unfold nuR at next
 generalize Ct.ptR p.rim = PR at *
 generalize Ct.wnR p.worn = WR at *
 refine pf (by kernel_rfl) (.to mo_ [] [2, 3, 5, 6, 12] [0, 1, 2, 3] 4 [cl en, cl en] (td' := lp fsm 0) (σ' := at_ fsm [(2, .lp 0 0), (3, .lp 1 0), (5, .lp 2 0), (6, .lp 3 0), (12, ni 0)] [.bx 30 ([ni p.id, ni p.home, .sl PR, .sl WR, zl p.marks] ++ (dR p.tol ++ (dR p.light ++ (dR p.heavy ++ (dR p.str ++ dR p.rough))))), .bx 30 ([ni p.id, ni p.home, .sl PR, .sl WR, zl p.marks] ++ (dR p.tol ++ (dR p.light ++ (dR p.heavy ++ (dR p.str ++ dR p.rough))))), .bx 96 (dR p.tol ++ (dR p.light ++ (dR p.heavy ++ (dR p.str ++ dR p.rough)))), .bx 96 (dR p.tol ++ (dR p.light ++ (dR p.heavy ++ (dR p.str ++ dR p.rough))))]) ?_ (by kernel_rfl))
 refine .to mo_ [] [2, 3, 5, 6, 12] [0, 1, 2, 3] 4 [yt, cl s0, nf] (td' := lp fsm 0) (σ' := at_ fsm [(2, .lp 0 0), (3, .lp 1 0), (5, .lp 2 0), (6, .lp 3 0), (12, ni 1)] [.bx 30 ([ni p.id, ni p.home, .sl PR, .sl WR, zl p.marks] ++ (dR p.tol ++ (dR p.light ++ (dR p.heavy ++ (dR p.str ++ dR p.rough))))), .bx 30 ([ni p.id, ni p.home, .sl PR, .sl WR, zl p.marks] ++ (dR p.tol ++ (dR p.light ++ (dR p.heavy ++ (dR p.str ++ dR p.rough))))), .bx 96 (dR p.tol ++ (dR p.light ++ (dR p.heavy ++ (dR p.str ++ dR p.rough)))), .bx 96 (dR p.tol ++ (dR p.light ++ (dR p.heavy ++ (dR p.str ++ dR p.rough))))]) ?_ (by kernel_rfl)
 refine .to mo_ [] [2, 3, 5, 6, 12] [0, 1, 2, 3] 4 [yt, cl s1, nf] (td' := lp fsm 0) (σ' := at_ fsm [(2, .lp 0 0), (3, .lp 1 0), (5, .lp 2 0), (6, .lp 3 0), (12, ni 2)] [.bx 30 ([ni p.id, ni p.home, .sl PR, .sl WR, zl p.marks] ++ (dR p.tol ++ (dR p.light ++ (dR p.heavy ++ (dR p.str ++ dR p.rough))))), .bx 30 ([ni p.id, ni p.home, .sl PR, .sl WR, zl p.marks] ++ (dR p.tol ++ (dR p.light ++ (dR p.heavy ++ (dR p.str ++ dR p.rough))))), .bx 96 (dR p.tol ++ (dR p.light ++ (dR p.heavy ++ (dR p.str ++ dR p.rough)))), .bx 96 (dR p.tol ++ (dR p.light ++ (dR p.heavy ++ (dR p.str ++ dR p.rough))))]) ?_ (by kernel_rfl)
 refine .to mo_ [] [2, 3, 5, 6, 12] [0, 1, 2, 3] 4 [yt, cl s2, nf] (td' := lp fsm 0) (σ' := at_ fsm [(2, .lp 0 0), (3, .lp 1 0), (5, .lp 2 0), (6, .lp 3 0), (12, ni 3)] [.bx 30 ([ni p.id, ni p.home, .sl PR, .sl WR, zl p.marks] ++ (dR p.tol ++ (dR p.light ++ (dR p.heavy ++ (dR p.str ++ dR p.rough))))), .bx 30 ([ni p.id, ni p.home, .sl PR, .sl WR, zl p.marks] ++ (dR p.tol ++ (dR p.light ++ (dR p.heavy ++ (dR p.str ++ dR p.rough))))), .bx 96 (dR p.tol ++ (dR p.light ++ (dR p.heavy ++ (dR p.str ++ dR p.rough)))), .bx 96 (dR p.tol ++ (dR p.light ++ (dR p.heavy ++ (dR p.str ++ dR p.rough))))]) ?_ (by kernel_rfl)
 refine .to mo_ [] [2, 3, 5, 6, 12] [0, 1, 2, 3] 4 [yt, cl s3, nf] (td' := lp fsm 0) (σ' := at_ fsm [(2, .lp 0 0), (3, .lp 1 0), (5, .lp 2 0), (6, .lp 3 0), (12, ni 4)] [.bx 30 ([ni p.id, ni p.home, .sl PR, .sl WR, zl p.marks] ++ (dR p.tol ++ (dR p.light ++ (dR p.heavy ++ (dR p.str ++ dR p.rough))))), .bx 30 ([ni p.id, ni p.home, .sl PR, .sl WR, zl p.marks] ++ (dR p.tol ++ (dR p.light ++ (dR p.heavy ++ (dR p.str ++ dR p.rough))))), .bx 96 (dR p.tol ++ (dR p.light ++ (dR p.heavy ++ (dR p.str ++ dR p.rough)))), .bx 96 (dR p.tol ++ (dR p.light ++ (dR p.heavy ++ (dR p.str ++ dR p.rough))))]) ?_ (by kernel_rfl)
 exact .to mo_ [] [2, 3, 5, 6, 12] [0, 1, 2, 3] 4 [yt, cl s4, nf] next (by kernel_rfl)
end Go.Proofs.YtlgnagnmoleeiaaGreat.E.Pc
