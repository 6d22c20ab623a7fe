/-
 CLAIMS: the law ClaimValid, by the engine.
-/
import Derived.Test.YtmhliomemdhmiaaGreatDoorCbD
import Derived.Test.YtmhliomemdhmiaaGreatDoorPlainX
namespace Go.Proofs.YtmhliomemdhmiaaGreatDoor.W
section
variable {α : Type} {d : List UInt8 → α × Nat × Int} {l : List UInt8} {n p u : Nat} {acc : List α} {x : α} {e : Int}
theorem seqD_e (h : d (l.drop p) = (x, u, e)) (he : e ≠ 0) : seqD d l (n + 1) p acc = ([], 0, e) := by
 simp only [seqD, h]
 rw [if_pos he]
theorem seqD_0 (h : d (l.drop p) = (x, u, 0)) : seqD d l (n + 1) p acc = seqD d l n (p + u) (acc ++ [x]) := by
 simp only [seqD, h]
 rw [if_neg (by simp)]
end
end Go.Proofs.YtmhliomemdhmiaaGreatDoor.W
namespace Go.Proofs.YtmhliomemdhmiaaGreatDoor.E.Ca
open Go.RowKit
set_option linter.unusedVariables false
set_option linter.unusedSimpArgs false
noncomputable abbrev fDc : Func := fnOf PP 27
def zC27 : List V := [ni 0, ni 0, ni 0, ni 0, .nl, ni 0, ni 0, ni 0, ni 0, ni 0, bo false, .nl, bo false, .nl, bo false, .nl, bo false, .nl, bo false, .nl, bo false, .nl, bo false, .nl, bo false, .nl, bo false, .nl, bo false, .nl, bo false, .nl, bo false, .nl, ni 0]
section
variable {l M L : List UInt8} {a0 a1 a2 a3 a4 f0 f1 f2 f3 f4 : Int} {R : List (Int × Int)} {q0 q1 q2 q3 q4 q5 : Rat} {a b c p : Nat} {e : Int}
theorem cd_bad (n : Nat) (hn : n ≤ 6) (he : e ≠ 0) : Gd PP 27 (.v (tuC (default, 0, e))) (lp fDc 0) (at_ fDc [(2, .lp 0 0), (6, .lp 2 0), (12, ni (n : Int))] [.bx 37 zC27, .dead, .bx 40 [ni e]]) := by
 rw [tuC_0]
 have h : n = 0 ∨ n = 1 ∨ n = 2 ∨ n = 3 ∨ n = 4 ∨ n = 5 ∨ n = 6 := by omega
 rcases h with rfl | rfl | rfl | rfl | rfl | rfl | rfl
 · exact fi [yt, na (t := e == 0) (by simpa using he), ye (t := e != 0) (by simpa using he)] (by kernel_rfl) (by kernel_rfl)
 · exact fi [yt, na (t := e == 0) (by simpa using he), ye (t := e != 0) (by simpa using he)] (by kernel_rfl) (by kernel_rfl)
 · exact fi [yt, na (t := e == 0) (by simpa using he), ye (t := e != 0) (by simpa using he)] (by kernel_rfl) (by kernel_rfl)
 · exact fi [yt, na (t := e == 0) (by simpa using he), ye (t := e != 0) (by simpa using he)] (by kernel_rfl) (by kernel_rfl)
 · exact fi [yt, na (t := e == 0) (by simpa using he), ye (t := e != 0) (by simpa using he)] (by kernel_rfl) (by kernel_rfl)
 · exact fi [yt, na (t := e == 0) (by simpa using he), ye (t := e != 0) (by simpa using he)] (by kernel_rfl) (by kernel_rfl)
 · exact fi [nf, nf, ye (t := e != 0) (by simpa using he)] (by kernel_rfl) (by kernel_rfl)
/-- What was decoded ahead of the numbers. -/
structure CK (l L : List UInt8) (a0 a1 a2 a3 a4 : Int) (R : List (Int × Int)) (f0 f1 f2 f3 f4 : Int) (a b c : Nat) : Prop where
 h1 : W.dL 5 l = ([a0, a1, a2, a3, a4], a, 0)
 h2 : W.dEv (l.drop a) = (flatR R, b, 0)
 h3 : W.dL 5 ((l.drop a).drop b) = ([f0, f1, f2, f3, f4], c, 0)
 hL : L = ((l.drop a).drop b).drop c
 ha : a + b + c ≤ l.length
 hb : l.length ≤ 1000000
 hR : R.length ≤ 1000000
noncomputable def cR (l M : List UInt8) (a0 a1 a2 a3 a4 : Int) (R : List (Int × Int)) (f0 f1 f2 f3 f4 : Int) (i : Nat) (X : List V) : St := at_ fDc [(0, .sl (byL l)), (2, .lp 0 0), (5, .lp 1 0), (6, .lp 2 0), (8, zl [a0, a1, a2, a3, a4]), (9, zl (flatR R)), (10, zl [f0, f1, f2, f3, f4]), (11, .lp 3 0), (12, ni (i : Int))] [.bx 37 zC27, .bx 56 [.sl (byL M)], .bx 40 [ni 0], .bx 98 X]
noncomputable def X6 (q0 q1 q2 q3 q4 q5 : Rat) : List V := dR q0 ++ (dR q1 ++ (dR q2 ++ (dR q3 ++ (dR q4 ++ dR q5))))
noncomputable def crS (a0 a1 a2 a3 a4 f0 f1 f2 f3 f4 : Int) (l : List UInt8) (R : List (Int × Int)) (more : List (Nat × V)) : List V := (at_ fDc ([(0, .sl (byL l)), (2, .lp 0 0), (5, .lp 1 0), (10, zl [f0, f1, f2, f3, f4]), (11, .lp 3 0), (16, .lp 4 0)] ++ more) []).t
noncomputable def crB (M : List UInt8) (X : List V) (a0 a1 a2 a3 a4 : Int) (xs : List (Int × Int)) : List HO := [.bx 37 zC27, .bx 56 [.sl (byL M)], .dead, .bx 98 X, .bx 37 [ni a0, ni a1, ni a2, ni a3, .ow 7, ni 0, ni 0, ni 0, ni 0, ni 0, bo false, .nl, bo false, .nl, bo false, .nl, bo false, .nl, bo false, .nl, bo false, .nl, bo false, .nl, bo false, .nl, bo false, .nl, bo false, .nl, bo false, .nl, bo false, .nl, ni a4], .dead, .dead, .rw 52 2 (rfs xs)]
theorem cd_6 (K : CK l L a0 a1 a2 a3 a4 R f0 f1 f2 f3 f4 a b c) (hM : M = L.drop p) (hp : p ≤ L.length) (hI : W.dN decQ 6 L = ([q0, q1, q2, q3, q4, q5], p, 0)) : Gd PP 27 (.v (tuC (decC l))) (lp fDc 0) (cR l M a0 a1 a2 a3 a4 R f0 f1 f2 f3 f4 6 (X6 q0 q1 q2 q3 q4 q5)) := by
 have hR := K.hR
 have ha := K.ha
 have hb := K.hb
 have hLl : L.length = l.length - a - b - c := by rw [K.hL]; simp only [List.length_drop]
 have hMl : M.length = L.length - p := by rw [hM]; simp
 rw [K.hL] at hI
 rw [decC_0 K.h1 K.h2 K.h3 hI]
 have hc : mkC ([a0, a1, a2, a3, a4], flatR R, [f0, f1, f2, f3, f4], [q0, q1, q2, q3, q4, q5]) = ⟨a0, a1, a2, a3, R, ⟨f0, f1, f2, f3, f4, q0, q1, q2, q3, q4, q5⟩, a4⟩ := by
  unfold mkC
  rw [pairs_flat]
  rfl
 rw [hc]
 refine .to mo_ [.fz 70, .oc 4 4 (.rw 52 2 [])] [0, 2, 5, 10, 11, 16, 70] [0, 1, 3, 4, 7] 8 [nf, nf, nf, .sel (zs [a0, a1, a2, a3, a4]) 0 [ni a0] rfl, .sel (zs [a0, a1, a2, a3, a4]) 1 [ni a1] rfl, .sel (zs [a0, a1, a2, a3, a4]) 2 [ni a2] rfl, .sel (zs [a0, a1, a2, a3, a4]) 3 [ni a3] rfl, .sel (zs [a0, a1, a2, a3, a4]) 4 [ni a4] rfl, .lend _ _ _ _ [] (e_chunk (E := flatR R))] (td' := rfI fDc) (σ' := ⟨crS a0 a1 a2 a3 a4 f0 f1 f2 f3 f4 l R [(70, .cl 135 (ckC R))], crB M (X6 q0 q1 q2 q3 q4 q5) a0 a1 a2 a3 a4 []⟩) ?_ (by kernel_rfl)
 refine Gd.rangeF mo_ (fn_of (f := 27) (by kernel_rfl)).1 (k := (rf fDc).2.2.2.2) (σ := ⟨crS a0 a1 a2 a3 a4 f0 f1 f2 f3 f4 l R [(70, .cl 135 (ckC R))], _⟩) (gf := 135) (caps := ckC R) (by kernel_rfl) (it_chunk hR) (fun x => by kernel_rfl) (fun b => Nat.beq b 7) (by kernel_rfl)
  (fun pre => crB M (X6 q0 q1 q2 q3 q4 q5) a0 a1 a2 a3 a4 pre) rfl (fun pre => ⟨rfl, fun b => ?_⟩) (fun x => crS a0 a1 a2 a3 a4 f0 f1 f2 f3 f4 l R [(17, .sl (zs [x.1, x.2])), (70, .cl 135 (ckC R)), (71, .sl (zs [x.1, x.2]))]) (fun pre x => .of [] [0, 2, 5, 10, 11, 16, 17, 70, 71] [0, 1, 3, 4, 7] [] (by kernel_rfl)) (fun _ => True) trivial (fun pre x hlt _ => ⟨trivial, ?_⟩) (fun xs hS _ => ?_)
 · match b with
   | 0 | 1 | 2 | 3 | 4 | 5 | 6 | 7 => rfl
   | b + 8 => rfl
 · have hx : rfs pre ++ rfs [x] = rfs (pre ++ [x]) := by unfold rfs; rw [List.map_append]
   exact RnM.ofH [.mv 7 9] [] [0, 1, 3, 4, 7] [.sel (zs [x.1, x.2]) 0 [ni x.1] rfl, .sel (zs [x.1, x.2]) 1 [ni x.2] rfl, .app (rfs pre) (rfs [x]) (rfs (pre ++ [x])) 2000000 hx (Nat.zero_lt_one) (by rw [rfs_len, List.length_append]; simp; omega)] (by kernel_rfl)
 · subst hS
   exact fi [.sel (zs [f0, f1, f2, f3, f4]) 0 [ni f0] rfl, .sel (zs [f0, f1, f2, f3, f4]) 1 [ni f1] rfl, .sel (zs [f0, f1, f2, f3, f4]) 2 [ni f2] rfl, .sel (zs [f0, f1, f2, f3, f4]) 3 [ni f3] rfl, .sel (zs [f0, f1, f2, f3, f4]) 4 [ni f4] rfl, lnq 118 l, lnq 120 M, wq 121 ((l.length : Int) - (M.length : Int)) ((a + (b + (c + p)) : Nat) : Int) (by omega)] (by kernel_rfl) (by kernel_rfl)
theorem cd_5 (K : CK l L a0 a1 a2 a3 a4 R f0 f1 f2 f3 f4 a b c) (hM : M = L.drop p) (hp : p ≤ L.length) (hI : W.dN decQ 6 L = W.seqD decQ L (0 + 1) p [q0, q1, q2, q3, q4]) : Gd PP 27 (.v (tuC (decC l))) (lp fDc 0) (cR l M a0 a1 a2 a3 a4 R f0 f1 f2 f3 f4 5 (dR q0 ++ (dR q1 ++ (dR q2 ++ (dR q3 ++ (dR q4 ++ (z4))))))) := by
 have hb := K.hb
 have ha := K.ha
 have hLl : L.length = l.length - a - b - c := by rw [K.hL]; simp only [List.length_drop]
 have hMl : M.length = L.length - p := by rw [hM]; simp
 have c1 := e_rdec M (by omega)
 have hle := decQ_le M
 rcases hd : decQ M with ⟨q, u, e⟩
 rw [hd] at c1 hle
 simp only at hle
 by_cases he : e = 0
 · subst he
   rw [W.seqD_0 (by rw [← hM]; exact hd)] at hI
   exact .to mo_ [] [0, 2, 5, 6, 8, 9, 10, 11, 12] [0, 1, 2, 3] 4 [yt, yt, cl c1, yt, slD M u hle] (cd_6 (M := M.drop u) (p := p + u) K (by rw [hM, List.drop_drop]) (by omega) hI) (by kernel_rfl)
 · rw [W.seqD_e (by rw [← hM]; exact hd) he, K.hL] at hI
   rw [decC_4 K.h1 K.h2 K.h3 hI he]
   exact .to mo_ [] [2, 6, 12] [0, 2] 3 [yt, yt, cl c1, na (t := e == 0) (by simpa using he)] (cd_bad 6 (by omega) he) (by kernel_rfl)
theorem cd_4 (K : CK l L a0 a1 a2 a3 a4 R f0 f1 f2 f3 f4 a b c) (hM : M = L.drop p) (hp : p ≤ L.length) (hI : W.dN decQ 6 L = W.seqD decQ L (1 + 1) p [q0, q1, q2, q3]) : Gd PP 27 (.v (tuC (decC l))) (lp fDc 0) (cR l M a0 a1 a2 a3 a4 R f0 f1 f2 f3 f4 4 (dR q0 ++ (dR q1 ++ (dR q2 ++ (dR q3 ++ (z4 ++ (z4))))))) := by
 have hb := K.hb
 have ha := K.ha
 have hLl : L.length = l.length - a - b - c := by rw [K.hL]; simp only [List.length_drop]
 have hMl : M.length = L.length - p := by rw [hM]; simp
 have c1 := e_rdec M (by omega)
 have hle := decQ_le M
 rcases hd : decQ M with ⟨q, u, e⟩
 rw [hd] at c1 hle
 simp only at hle
 by_cases he : e = 0
 · subst he
   rw [W.seqD_0 (by rw [← hM]; exact hd)] at hI
   exact .to mo_ [] [0, 2, 5, 6, 8, 9, 10, 11, 12] [0, 1, 2, 3] 4 [yt, yt, cl c1, yt, slD M u hle] (cd_5 (M := M.drop u) (p := p + u) K (by rw [hM, List.drop_drop]) (by omega) hI) (by kernel_rfl)
 · rw [W.seqD_e (by rw [← hM]; exact hd) he, K.hL] at hI
   rw [decC_4 K.h1 K.h2 K.h3 hI he]
   exact .to mo_ [] [2, 6, 12] [0, 2] 3 [yt, yt, cl c1, na (t := e == 0) (by simpa using he)] (cd_bad 5 (by omega) he) (by kernel_rfl)
theorem cd_3 (K : CK l L a0 a1 a2 a3 a4 R f0 f1 f2 f3 f4 a b c) (hM : M = L.drop p) (hp : p ≤ L.length) (hI : W.dN decQ 6 L = W.seqD decQ L (2 + 1) p [q0, q1, q2]) : Gd PP 27 (.v (tuC (decC l))) (lp fDc 0) (cR l M a0 a1 a2 a3 a4 R f0 f1 f2 f3 f4 3 (dR q0 ++ (dR q1 ++ (dR q2 ++ (z4 ++ (z4 ++ (z4))))))) := by
 have hb := K.hb
 have ha := K.ha
 have hLl : L.length = l.length - a - b - c := by rw [K.hL]; simp only [List.length_drop]
 have hMl : M.length = L.length - p := by rw [hM]; simp
 have c1 := e_rdec M (by omega)
 have hle := decQ_le M
 rcases hd : decQ M with ⟨q, u, e⟩
 rw [hd] at c1 hle
 simp only at hle
 by_cases he : e = 0
 · subst he
   rw [W.seqD_0 (by rw [← hM]; exact hd)] at hI
   exact .to mo_ [] [0, 2, 5, 6, 8, 9, 10, 11, 12] [0, 1, 2, 3] 4 [yt, yt, cl c1, yt, slD M u hle] (cd_4 (M := M.drop u) (p := p + u) K (by rw [hM, List.drop_drop]) (by omega) hI) (by kernel_rfl)
 · rw [W.seqD_e (by rw [← hM]; exact hd) he, K.hL] at hI
   rw [decC_4 K.h1 K.h2 K.h3 hI he]
   exact .to mo_ [] [2, 6, 12] [0, 2] 3 [yt, yt, cl c1, na (t := e == 0) (by simpa using he)] (cd_bad 4 (by omega) he) (by kernel_rfl)
theorem cd_2 (K : CK l L a0 a1 a2 a3 a4 R f0 f1 f2 f3 f4 a b c) (hM : M = L.drop p) (hp : p ≤ L.length) (hI : W.dN decQ 6 L = W.seqD decQ L (3 + 1) p [q0, q1]) : Gd PP 27 (.v (tuC (decC l))) (lp fDc 0) (cR l M a0 a1 a2 a3 a4 R f0 f1 f2 f3 f4 2 (dR q0 ++ (dR q1 ++ (z4 ++ (z4 ++ (z4 ++ (z4))))))) := by
 have hb := K.hb
 have ha := K.ha
 have hLl : L.length = l.length - a - b - c := by rw [K.hL]; simp only [List.length_drop]
 have hMl : M.length = L.length - p := by rw [hM]; simp
 have c1 := e_rdec M (by omega)
 have hle := decQ_le M
 rcases hd : decQ M with ⟨q, u, e⟩
 rw [hd] at c1 hle
 simp only at hle
 by_cases he : e = 0
 · subst he
   rw [W.seqD_0 (by rw [← hM]; exact hd)] at hI
   exact .to mo_ [] [0, 2, 5, 6, 8, 9, 10, 11, 12] [0, 1, 2, 3] 4 [yt, yt, cl c1, yt, slD M u hle] (cd_3 (M := M.drop u) (p := p + u) K (by rw [hM, List.drop_drop]) (by omega) hI) (by kernel_rfl)
 · rw [W.seqD_e (by rw [← hM]; exact hd) he, K.hL] at hI
   rw [decC_4 K.h1 K.h2 K.h3 hI he]
   exact .to mo_ [] [2, 6, 12] [0, 2] 3 [yt, yt, cl c1, na (t := e == 0) (by simpa using he)] (cd_bad 3 (by omega) he) (by kernel_rfl)
theorem cd_1 (K : CK l L a0 a1 a2 a3 a4 R f0 f1 f2 f3 f4 a b c) (hM : M = L.drop p) (hp : p ≤ L.length) (hI : W.dN decQ 6 L = W.seqD decQ L (4 + 1) p [q0]) : Gd PP 27 (.v (tuC (decC l))) (lp fDc 0) (cR l M a0 a1 a2 a3 a4 R f0 f1 f2 f3 f4 1 (dR q0 ++ (z4 ++ (z4 ++ (z4 ++ (z4 ++ (z4))))))) := by
 have hb := K.hb
 have ha := K.ha
 have hLl : L.length = l.length - a - b - c := by rw [K.hL]; simp only [List.length_drop]
 have hMl : M.length = L.length - p := by rw [hM]; simp
 have c1 := e_rdec M (by omega)
 have hle := decQ_le M
 rcases hd : decQ M with ⟨q, u, e⟩
 rw [hd] at c1 hle
 simp only at hle
 by_cases he : e = 0
 · subst he
   rw [W.seqD_0 (by rw [← hM]; exact hd)] at hI
   exact .to mo_ [] [0, 2, 5, 6, 8, 9, 10, 11, 12] [0, 1, 2, 3] 4 [yt, yt, cl c1, yt, slD M u hle] (cd_2 (M := M.drop u) (p := p + u) K (by rw [hM, List.drop_drop]) (by omega) hI) (by kernel_rfl)
 · rw [W.seqD_e (by rw [← hM]; exact hd) he, K.hL] at hI
   rw [decC_4 K.h1 K.h2 K.h3 hI he]
   exact .to mo_ [] [2, 6, 12] [0, 2] 3 [yt, yt, cl c1, na (t := e == 0) (by simpa using he)] (cd_bad 2 (by omega) he) (by kernel_rfl)
theorem cd_0 (K : CK l L a0 a1 a2 a3 a4 R f0 f1 f2 f3 f4 a b c) (hM : M = L.drop p) (hp : p ≤ L.length) (hI : W.dN decQ 6 L = W.seqD decQ L (5 + 1) p []) : Gd PP 27 (.v (tuC (decC l))) (lp fDc 0) (cR l M a0 a1 a2 a3 a4 R f0 f1 f2 f3 f4 0 (z4 ++ (z4 ++ (z4 ++ (z4 ++ (z4 ++ (z4))))))) := by
 have hb := K.hb
 have ha := K.ha
 have hLl : L.length = l.length - a - b - c := by rw [K.hL]; simp only [List.length_drop]
 have hMl : M.length = L.length - p := by rw [hM]; simp
 have c1 := e_rdec M (by omega)
 have hle := decQ_le M
 rcases hd : decQ M with ⟨q, u, e⟩
 rw [hd] at c1 hle
 simp only at hle
 by_cases he : e = 0
 · subst he
   rw [W.seqD_0 (by rw [← hM]; exact hd)] at hI
   exact .to mo_ [] [0, 2, 5, 6, 8, 9, 10, 11, 12] [0, 1, 2, 3] 4 [yt, yt, cl c1, yt, slD M u hle] (cd_1 (M := M.drop u) (p := p + u) K (by rw [hM, List.drop_drop]) (by omega) hI) (by kernel_rfl)
 · rw [W.seqD_e (by rw [← hM]; exact hd) he, K.hL] at hI
   rw [decC_4 K.h1 K.h2 K.h3 hI he]
   exact .to mo_ [] [2, 6, 12] [0, 2] 3 [yt, yt, cl c1, na (t := e == 0) (by simpa using he)] (cd_bad 1 (by omega) he) (by kernel_rfl)
end
end Go.Proofs.YtmhliomemdhmiaaGreatDoor.E.Ca
namespace Go.Proofs.YtmhliomemdhmiaaGreatDoor.E.Ca
open Go.RowKit
set_option linter.unusedVariables false
set_option linter.unusedSimpArgs false
theorem five_of {α : Type} {l : List α} (h : l.length = 5) : ∃ a b c d e, l = [a, b, c, d, e] := by
 match l, h with
 | [a, b, c, d, e], _ => exact ⟨a, b, c, d, e, rfl⟩
theorem decI_le (l : List UInt8) : (W.decI l).1.length ≤ l.length ∧ (W.decI l).2.1 ≤ l.length := W.decL_le W.codec_int l
theorem e_cdec (l : List UInt8) (hb : l.length ≤ 1000000) : Pure PP 27 [.sl (byL l)] (tuC (decC l)) := by
 have c1 := e_wgetints l hb
 have k1 := decI_le l
 rcases hd1 : W.decI l with ⟨A, a, e1⟩
 rw [hd1] at c1 k1
 simp only at k1
 by_cases he1 : e1 = 0
 · subst he1
   by_cases hA : A.length = 5
   · have g1 := e_cg_3 73 c1 (by have := e_five2 A.length; rwa [decide_eq_true (by omega)] at this) k1.2
     have r1 := W.dL_0 5 hd1 hA
     have c2 := e_wgetints (l.drop a) (by rw [List.length_drop]; omega)
     have k2 := decI_le (l.drop a)
     rcases hd2 : W.decI (l.drop a) with ⟨E, b, e2⟩
     rw [hd2] at c2 k2
     simp only [List.length_drop] at k2
     by_cases he2 : e2 = 0
     · subst he2
       by_cases hE : E.length % 2 = 0
       · have g2 := e_cg_3 74 c2 (by have := e_even E.length; rwa [decide_eq_true hE] at this) (by rw [List.length_drop]; exact k2.2)
         have r2 := W.dEv_0 hd2 hE
         have c3 := e_wgetints ((l.drop a).drop b) (by simp only [List.length_drop]; omega)
         have k3 := decI_le ((l.drop a).drop b)
         rcases hd3 : W.decI ((l.drop a).drop b) with ⟨F, c, e3⟩
         rw [hd3] at c3 k3
         simp only [List.length_drop] at k3
         by_cases he3 : e3 = 0
         · subst he3
           by_cases hF : F.length = 5
           · have g3 := e_cg_3 75 c3 (by have := e_five4 F.length; rwa [decide_eq_true (by omega)] at this) (by simp only [List.length_drop]; exact k3.2)
             have r3 := W.dL_0 5 hd3 hF
             obtain ⟨a0, a1, a2, a3, a4, rfl⟩ := five_of hA
             obtain ⟨f0, f1, f2, f3, f4, rfl⟩ := five_of hF
             obtain ⟨R, rfl⟩ : ∃ R, E = flatR R := ⟨pairs E, (flat_pairs E hE).symm⟩
             rw [flatR_len] at k2
             exact pf (by kernel_rfl) (.to mo_ [] [0, 2, 5, 6, 8, 9, 10, 11, 12] [0, 1, 2, 3] 4 [.lend _ _ _ _ [2, 1] g1, .lend _ _ _ _ [2, 1] g2, .lend _ _ _ _ [2, 1] g3] (cd_0 (p := 0) (M := ((l.drop a).drop b).drop c) ⟨r1, r2, r3, rfl, by omega, hb, by omega⟩ rfl (Nat.zero_le _) rfl) (by kernel_rfl))
           · have g3 := e_cg_2 75 c3 (by have := e_five4 F.length; rwa [decide_eq_false (by omega)] at this)
             rw [decC_3 r1 r2 (W.dL_n 5 hd3 hF) (by decide)]
             exact pf (by kernel_rfl) (.to mo_ [] [2, 6, 12] [0, 2] 3 [.lend _ _ _ _ [2, 1] g1, .lend _ _ _ _ [2, 1] g2, .lend _ _ _ _ [2, 1] g3] (cd_bad 0 (by decide) (by decide)) (by kernel_rfl))
         · have g3 := e_cg_1 75 c3 he3
           rw [decC_3 r1 r2 (W.dL_e 5 hd3 he3) he3]
           exact pf (by kernel_rfl) (.to mo_ [] [2, 6, 12] [0, 2] 3 [.lend _ _ _ _ [2, 1] g1, .lend _ _ _ _ [2, 1] g2, .lend _ _ _ _ [2, 1] g3] (cd_bad 0 (by decide) he3) (by kernel_rfl))
       · have g2 := e_cg_2 74 c2 (by have := e_even E.length; rwa [decide_eq_false hE] at this)
         have g3 := e_cg_0 (e := 2) (l := l.drop a) 75 (by decide)
         rw [decC_2 r1 (W.dEv_n hd2 hE) (by decide)]
         exact pf (by kernel_rfl) (.to mo_ [] [2, 6, 12] [0, 2] 3 [.lend _ _ _ _ [2, 1] g1, .lend _ _ _ _ [2, 1] g2, .lend _ _ _ _ [2, 1] g3] (cd_bad 0 (by decide) (by decide)) (by kernel_rfl))
     · have g2 := e_cg_1 74 c2 he2
       have g3 := e_cg_0 (l := l.drop a) 75 he2
       rw [decC_2 r1 (W.dEv_e hd2 he2) he2]
       exact pf (by kernel_rfl) (.to mo_ [] [2, 6, 12] [0, 2] 3 [.lend _ _ _ _ [2, 1] g1, .lend _ _ _ _ [2, 1] g2, .lend _ _ _ _ [2, 1] g3] (cd_bad 0 (by decide) he2) (by kernel_rfl))
   · have g1 := e_cg_2 73 c1 (by have := e_five2 A.length; rwa [decide_eq_false (by omega)] at this)
     have g2 := e_cg_0 (e := 2) (l := l) 74 (by decide)
     have g3 := e_cg_0 (e := 2) (l := l) 75 (by decide)
     rw [decC_1 (W.dL_n 5 hd1 hA) (by decide)]
     exact pf (by kernel_rfl) (.to mo_ [] [2, 6, 12] [0, 2] 3 [.lend _ _ _ _ [2, 1] g1, .lend _ _ _ _ [2, 1] g2, .lend _ _ _ _ [2, 1] g3] (cd_bad 0 (by decide) (by decide)) (by kernel_rfl))
 · have g1 := e_cg_1 73 c1 he1
   have g2 := e_cg_0 (l := l) 74 he1
   have g3 := e_cg_0 (l := l) 75 he1
   rw [decC_1 (W.dL_e 5 hd1 he1) he1]
   exact pf (by kernel_rfl) (.to mo_ [] [2, 6, 12] [0, 2] 3 [.lend _ _ _ _ [2, 1] g1, .lend _ _ _ _ [2, 1] g2, .lend _ _ _ _ [2, 1] g3] (cd_bad 0 (by decide) he1) (by kernel_rfl))
end Go.Proofs.YtmhliomemdhmiaaGreatDoor.E.Ca
namespace Go.Proofs.YtmhliomemdhmiaaGreatDoor.E.Ca
open Go.RowKit
set_option linter.unusedVariables false
set_option linter.unusedSimpArgs false
/-- Claims whose rational numbers are such, with few references. -/
def Qc (c : CM) : Prop := ∃ q : CQ, c = q.cm ∧ q.refs.length ≤ 10
theorem Qc.c0 : Qc c0 := ⟨⟨0, 0, 0, 0, [], zQ, 0⟩, by unfold CQ.cm; simp only [zQ_fm], by decide⟩
section
variable {l : List Int} {i : Nat} {b s t kd : Int} {rf : List (Int × Int)}
theorem clG_q (hr : rf.length ≤ 10) : Qc (clG l i b s t rf kd) := by
 unfold clG
 split
 · exact ⟨⟨b, s, t, 0, [], zQ, 1 + atz l (5 * i + 4) 8⟩, by unfold CQ.cm; simp only [zQ_fm], by simp⟩
 · exact ⟨⟨b, s, t, 1, rf, fitQ l (5 * i + 2), 0⟩, rfl, hr⟩
 · exact ⟨⟨b, s, t, kd, rf, zQ, 0⟩, by unfold CQ.cm; simp only [zQ_fm], hr⟩
theorem good_q : ∀ i, i ≤ 10 → ∀ c ∈ (goodF l i).1, Qc c
 | 0, _, c, hc => by cases hc
 | i + 1, hi, c, hc => by
  have ih := good_q i (by omega)
  have hl := good_len (l := l) i
  rcases List.mem_append.1 hc with h | h
  · exact ih c h
  · rw [List.mem_singleton] at h
    subst h
    refine clG_q ?_
    unfold rfG
    have := refsF_len (L := (goodF l i).1) (bits := bitsG l i) (goodF l i).1.length
    omega
theorem goodL_q : ∀ c ∈ goodL l, Qc c := good_q _ (Nat.min_le_left _ _)
theorem getD_q {L : List CM} (h : ∀ c ∈ L, Qc c) (i : Nat) : Qc (L.getD i c0) := by
 rw [List.getD_eq_getElem?_getD]
 cases e : L[i]? with
 | none => exact Qc.c0
 | some c => exact h c (List.mem_of_getElem? e)
theorem someC_q {c : CM} (h : Qc c) : Qc (someC l i c) := by
 obtain ⟨q, rfl, hq⟩ := h
 unfold someC
 split
 · exact ⟨⟨q.by_, atz l (5 * i + 2) 2, atz l (5 * i + 3) 3, 3, [(atz l (5 * i + 3) 2, atz l (5 * i + 1) 2), (atz l (5 * i) 1, (atz l (5 * i + 4) 3).tdiv 2)], q.fit, q.w⟩, rfl, by simp⟩
 · exact ⟨⟨q.by_, atz l (5 * i + 2) 2, atz l (5 * i + 3) 3, q.kind, q.refs, q.fit, q.w⟩, rfl, hq⟩
theorem some_q : ∀ i, ∀ c ∈ someF l i, Qc c
 | 0, c, hc => by cases hc
 | i + 1, c, hc => by
  rcases List.mem_append.1 hc with h | h
  · exact some_q i c h
  · rw [List.mem_singleton] at h
    subst h
    exact someC_q (getD_q goodL_q i)
theorem someL_len (l : List Int) : (someL l).length ≤ 10 := by unfold someL; rw [some_len]; exact goodL_len l
theorem odd_q {q : CQ} (h n : Int) : ∃ p : CQ, oddF q.cm h n = p.cm := by
 unfold oddF
 by_cases e0 : h = 0
 · rw [if_pos e0]; exact ⟨{ q with by_ := n }, rfl⟩
 rw [if_neg e0]
 by_cases e1 : h = 1
 · rw [if_pos e1]; exact ⟨{ q with seq := n }, rfl⟩
 rw [if_neg e1]
 by_cases e2 : h = 2
 · rw [if_pos e2]; exact ⟨{ q with tick := n }, rfl⟩
 rw [if_neg e2]
 by_cases e3 : h = 3
 · rw [if_pos e3]; exact ⟨{ q with kind := n }, rfl⟩
 rw [if_neg e3]
 by_cases e4 : h = 4
 · rw [if_pos e4]; exact ⟨{ q with w := n }, rfl⟩
 rw [if_neg e4]
 by_cases e5 : h = 5
 · rw [if_pos e5]; exact ⟨{ q with refs := q.refs ++ [(n, n)] }, rfl⟩
 rw [if_neg e5]
 by_cases e6 : h = 6
 · rw [if_pos e6]; exact ⟨{ q with refs := q.refs ++ [(q.by_, q.seq)] }, rfl⟩
 rw [if_neg e6]
 by_cases e7 : h = 7
 · rw [if_pos e7]; exact ⟨{ q with fit := { q.fit with many := n } }, rfl⟩
 rw [if_neg e7]
 by_cases e8 : h = 8
 · rw [if_pos e8]; exact ⟨{ q with fit := { q.fit with a := n } }, rfl⟩
 rw [if_neg e8]
 by_cases e9 : h = 9
 · rw [if_pos e9]; exact ⟨{ q with fit := { q.fit with r0 := Rat.divInt n 7 } }, rfl⟩
 rw [if_neg e9]
 by_cases e10 : h = 10
 · rw [if_pos e10]; exact ⟨{ q with fit := { q.fit with r2 := Rat.divInt n 2 } }, rfl⟩
 rw [if_neg e10]
 exact ⟨{ q with fit := { q.fit with eb := n } }, rfl⟩
end
section
variable {l : List Int} {how n : Int} {S : List CM} {i k j : Nat} {a : Bool}
theorem eB {f : FuncId} {ds : List V} {x y : Bool} (h : Pure PP f ds (bo x)) (e : x = y) : Pure PP f ds (bo y) := e ▸ h
def ltS (S : List CM) (i : Nat) : Bool := decide ((i : Int) < ((S.map dC).length : Int))
theorem ltS_t (h : i < S.length) : ltS S i = true := decide_eq_true (by rw [List.length_map]; omega)
theorem ltS_f (h : ¬ i < S.length) : ltS S i = false := decide_eq_false (by rw [List.length_map]; omega)
end
end Go.Proofs.YtmhliomemdhmiaaGreatDoor.E.Ca
namespace Go.Proofs.YtmhliomemdhmiaaGreatDoor.E.Ca
open Go.RowKit
set_option linter.unusedVariables false
set_option linter.unusedSimpArgs false
section
variable {p q r : Int × Int} {o : List (Int × Int)} {n : Int × Int} {L : List CM} {bits : Int} {i k : Nat} {l : List Int}
/-- What is true of all that was made so far. -/
structure GI (L : List CM) : Prop where
 by_ : ∀ c ∈ L, 0 ≤ c.by_ ∧ c.by_ ≤ 2
 seq : ∀ k, k < L.length → (L.getD k c0).seq = (seqG L (L.getD k c0).by_ k : Int)
 ok : ∀ c ∈ L, validI c = 0
theorem seq_mono (b : Int) : ∀ j k, k + j ≤ L.length → seqG L b k ≤ seqG L b (k + j)
 | 0, k, _ => Nat.le_refl _
 | j + 1, k, h => by
  have h1 := seq_mono b j k (by omega)
  have h2 := seq_step (L := L) (k := k + j) (by omega) b
  rw [show k + (j + 1) = k + j + 1 by omega, h2]
  split <;> omega
theorem GI.ne (h : GI L) : ∀ a b, a < b → b < L.length → (L.getD a c0).nm ≠ (L.getD b c0).nm := fun a b hab hb e => by
 unfold CM.nm at e
 injection e with e1 e2
 have sa := h.seq a (by omega)
 have sb := h.seq b hb
 rw [← e1] at sb
 have st := seq_step (L := L) (k := a) (by omega) (L.getD a c0).by_
 rw [if_pos (by simp)] at st
 have mo := seq_mono (L := L) (L.getD a c0).by_ (b - (a + 1)) (a + 1) (by omega)
 rw [show a + 1 + (b - (a + 1)) = b by omega] at mo
 omega
theorem GI.own (h : GI L) {b : Int} (k : Nat) (hk : k < L.length) : (L.getD k c0).nm ≠ (b, (seqG L b L.length : Int)) := fun e => by
 unfold CM.nm at e
 injection e with e1 e2
 have sa := h.seq k hk
 rw [e1] at sa
 have st := seq_step (L := L) (k := k) hk b
 rw [if_pos (by rw [e1]; simp)] at st
 have mo := seq_mono (L := L) b (L.length - (k + 1)) (k + 1) (by omega)
 rw [show k + 1 + (L.length - (k + 1)) = L.length by omega] at mo
 omega
theorem getD_app {c : CM} (hk : k < L.length) : (L ++ [c]).getD k c0 = L.getD k c0 := by
 rw [List.getD_eq_getElem?_getD, List.getD_eq_getElem?_getD, List.getElem?_append_left hk]
theorem seq_app {c : CM} (b : Int) (hk : k ≤ L.length) : seqG (L ++ [c]) b k = seqG L b k := by
 unfold seqG
 rw [List.take_append_of_le_length hk]
theorem GI.add (h : GI L) {c : CM} (h1 : 0 ≤ c.by_ ∧ c.by_ ≤ 2) (h2 : c.seq = (seqG L c.by_ L.length : Int)) (h3 : validI c = 0) : GI (L ++ [c]) where
 by_ d hd := by
  rcases List.mem_append.1 hd with g | g
  · exact h.by_ d g
  · rw [List.mem_singleton] at g; subst g; exact h1
 seq k hk := by
  rw [List.length_append, List.length_singleton] at hk
  by_cases g : k < L.length
  · rw [getD_app g, seq_app _ (by omega)]
    exact h.seq k g
  · have e : k = L.length := by omega
    subst e
    have e2 : (L ++ [c]).getD L.length c0 = c := by rw [List.getD_eq_getElem?_getD, List.getElem?_append_right (Nat.le_refl _)]; simp
    rw [e2, seq_app _ (Nat.le_refl _)]
    exact h2
 ok d hd := by
  rcases List.mem_append.1 hd with g | g
  · exact h.ok d g
  · rw [List.mem_singleton] at g; subst g; exact h3
end
end Go.Proofs.YtmhliomemdhmiaaGreatDoor.E.Ca
namespace Go.Proofs.YtmhliomemdhmiaaGreatDoor.E.Ca
open Go.RowKit
set_option linter.unusedVariables false
set_option linter.unusedSimpArgs false
section
variable {l : List Int} {i k j : Nat} {c d : CM} {how n more m : Int} {lo : List (Int × Int)}
def FB (c : CM) : Prop := FBits 100 c.fit
theorem clG_fb {b s t kd : Int} {rf : List (Int × Int)} : FB (clG l i b s t rf kd) := by
 unfold clG FB
 split
 · exact zF_bits
 · exact fit_bits l _
 · exact zF_bits
theorem good_fb : ∀ i, ∀ c ∈ (goodF l i).1, FB c
 | 0, c, hc => by cases hc
 | i + 1, c, hc => by
  rcases List.mem_append.1 hc with h | h
  · exact good_fb i c h
  · rw [List.mem_singleton] at h
    subst h
    exact clG_fb
theorem bd64 {x : Int} (h : W.Is64 x) : I.Bd 64 x := by unfold I.Bd; unfold W.Is64 at h; simp; omega
theorem FB.odd (h : FB c) (x : Int) (hn : W.Is64 n) : FB (oddF c x n) := by
 have b7 : Bq 100 (Rat.divInt n 7) := (Bq.divInt (k := 64) (bd64 hn) (bd64 is7) (by omega)).mono (by omega)
 have b2 : Bq 100 (Rat.divInt n 2) := (Bq.divInt (k := 64) (bd64 hn) (bd64 is2) (by omega)).mono (by omega)
 unfold oddF
 by_cases e0 : x = 0
 · rw [if_pos e0]; exact h
 rw [if_neg e0]
 by_cases e1 : x = 1
 · rw [if_pos e1]; exact h
 rw [if_neg e1]
 by_cases e2 : x = 2
 · rw [if_pos e2]; exact h
 rw [if_neg e2]
 by_cases e3 : x = 3
 · rw [if_pos e3]; exact h
 rw [if_neg e3]
 by_cases e4 : x = 4
 · rw [if_pos e4]; exact h
 rw [if_neg e4]
 by_cases e5 : x = 5
 · rw [if_pos e5]; exact h
 rw [if_neg e5]
 by_cases e6 : x = 6
 · rw [if_pos e6]; exact h
 rw [if_neg e6]
 by_cases e7 : x = 7
 · rw [if_pos e7]; exact h
 rw [if_neg e7]
 by_cases e8 : x = 8
 · rw [if_pos e8]; exact h
 rw [if_neg e8]
 by_cases e9 : x = 9
 · rw [if_pos e9]
   intro y hy
   simp only [nu, List.mem_cons, List.not_mem_nil, or_false] at hy
   rcases hy with rfl | rfl | rfl | rfl | rfl | rfl
   · exact bq_bn b7
   all_goals exact h _ (by simp [nu])
 rw [if_neg e9]
 by_cases e10 : x = 10
 · rw [if_pos e10]
   intro y hy
   simp only [nu, List.mem_cons, List.not_mem_nil, or_false] at hy
   rcases hy with rfl | rfl | rfl | rfl | rfl | rfl
   · exact h _ (by simp [nu])
   · exact h _ (by simp [nu])
   · exact bq_bn b2
   all_goals exact h _ (by simp [nu])
 rw [if_neg e10]
 exact h
theorem odd_len (x : Int) : (oddF c x n).refs.length ≤ c.refs.length + 1 := by
 unfold oddF
 by_cases e0 : x = 0
 · rw [if_pos e0]; exact Nat.le_succ _
 rw [if_neg e0]
 by_cases e1 : x = 1
 · rw [if_pos e1]; exact Nat.le_succ _
 rw [if_neg e1]
 by_cases e2 : x = 2
 · rw [if_pos e2]; exact Nat.le_succ _
 rw [if_neg e2]
 by_cases e3 : x = 3
 · rw [if_pos e3]; exact Nat.le_succ _
 rw [if_neg e3]
 by_cases e4 : x = 4
 · rw [if_pos e4]; exact Nat.le_succ _
 rw [if_neg e4]
 by_cases e5 : x = 5
 · rw [if_pos e5]; simp
 rw [if_neg e5]
 by_cases e6 : x = 6
 · rw [if_pos e6]; simp
 rw [if_neg e6]
 by_cases e7 : x = 7
 · rw [if_pos e7]; exact Nat.le_succ _
 rw [if_neg e7]
 by_cases e8 : x = 8
 · rw [if_pos e8]; exact Nat.le_succ _
 rw [if_neg e8]
 by_cases e9 : x = 9
 · rw [if_pos e9]; exact Nat.le_succ _
 rw [if_neg e9]
 by_cases e10 : x = 10
 · rw [if_pos e10]; exact Nat.le_succ _
 rw [if_neg e10]
 exact Nat.le_succ _
def rawN (r : Int) : RN := ⟨false, [2], false, [1 + r]⟩
def odd3 (c : CM) (r : Int) : CM := { c with fit := { c.fit with n5 := rawN r } }
theorem FB.raw (h : FB c) {r : Int} (hr : 0 ≤ r ∧ r ≤ 4) : FB (odd3 c r) := by
 intro y hy
 simp only [odd3, nu, List.mem_cons, List.not_mem_nil, or_false] at hy
 rcases hy with rfl | rfl | rfl | rfl | rfl | rfl
 · exact h _ (by simp [nu])
 · exact h _ (by simp [nu])
 · exact h _ (by simp [nu])
 · exact h _ (by simp [nu])
 · exact h _ (by simp [nu])
 · have hb : ∀ x : Int, 0 ≤ x → x ≤ 100 → I.Bd 100 x := fun x h0 h1 => by
    unfold I.Bd
    have : (128 : Nat) ≤ 2 ^ 100 := by decide
    omega
   refine ⟨fun _ => ?_, fun _ => ?_⟩
   · show I.Bd 100 (I.val [2])
     exact hb _ (by decide) (by decide)
   · show I.Bd 100 (I.val [1 + r])
     have e : I.val [1 + r] = 1 + r := by simp [I.val]
     rw [e]
     exact hb _ (by omega) (by omega)
noncomputable abbrev fcv : Func := fnOf PP 3
noncomputable def V2 (how n more m : Int) (lo : List (Int × Int)) (G : List CM) (i : Nat) (c : CM) (M : List CM) (k : Nat) : St := at_ fcv [(1, ni how), (2, ni n), (3, ni more), (4, ni m), (5, .sl (rfs lo)), (13, .sl (G.map dC)), (14, ni i), (15, .lp 0 0), (17, .ow 2), (18, ni k)] [.bx 37 (dC c), .dead, .rw 37 35 (M.map dC)]
end
end Go.Proofs.YtmhliomemdhmiaaGreatDoor.E.Ca
