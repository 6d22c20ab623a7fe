/-
 A SLICE OF INTS THAT COMES IN: what is told of it.
-/
import Derived.Test.YtjegnmlchioofaaGreatDoorCbD
import Derived.Test.YtjegnmlchioofaaGreatDoorPlainX
import Derived.Test.YtjegnmlchioofaaGreatDoorEmL
import Derived.Test.YtjegnmlchioofaaGreatDoorFlow
import Derived.OpenShut
namespace Go.Proofs.YtjegnmlchioofaaGreatDoor.W
section
variable {α : Type} {d : List UInt8 → α × Nat × Int} {l : List UInt8} {n p u : Nat} {acc : List α} {x : α} {e : Int}
theorem seqD_e (h : d (l.drop p) = (x, u, e)) (he : e ≠ 0) : seqD d l (n + 1) p acc = ([], 0, e) := by
 simp only [seqD, h]
 rw [if_pos he]
theorem seqD_0 (h : d (l.drop p) = (x, u, 0)) : seqD d l (n + 1) p acc = seqD d l n (p + u) (acc ++ [x]) := by
 simp only [seqD, h]
 rw [if_neg (by simp)]
end
end Go.Proofs.YtjegnmlchioofaaGreatDoor.W
namespace Go.Proofs.YtjegnmlchioofaaGreatDoor.E.Ca
open Go.RowKit
set_option linter.unusedVariables false
set_option linter.unusedSimpArgs false
noncomputable abbrev fDc : Func := fnOf PP 14
def zC27 : List V := [ni 0, ni 0, ni 0, ni 0, .nl, ni 0, ni 0, ni 0, ni 0, ni 0, bo false, .nl, bo false, .nl, bo false, .nl, bo false, .nl, bo false, .nl, bo false, .nl, bo false, .nl, bo false, .nl, bo false, .nl, bo false, .nl, bo false, .nl, bo false, .nl, ni 0]
section
variable {l M L : List UInt8} {a0 a1 a2 a3 a4 f0 f1 f2 f3 f4 : Int} {R : List (Int × Int)} {q0 q1 q2 q3 q4 q5 : Rat} {a b c p : Nat} {e : Int}
theorem cd_bad (n : Nat) (hn : n ≤ 6) (he : e ≠ 0) : Gd PP 14 (.v (tuC (default, 0, e))) (lp fDc 0) (at_ fDc [(2, .lp 0 0), (6, .lp 2 0), (12, ni (n : Int))] [.bx 43 zC27, .dead, .bx 50 [ni e]]) := by
 rw [tuC_0]
 have h : n = 0 ∨ n = 1 ∨ n = 2 ∨ n = 3 ∨ n = 4 ∨ n = 5 ∨ n = 6 := by omega
 rcases h with rfl | rfl | rfl | rfl | rfl | rfl | rfl
 · exact fi [yt, na (t := e == 0) (by simpa using he), ye (t := e != 0) (by simpa using he)] (by kernel_rfl) (by kernel_rfl)
 · exact fi [yt, na (t := e == 0) (by simpa using he), ye (t := e != 0) (by simpa using he)] (by kernel_rfl) (by kernel_rfl)
 · exact fi [yt, na (t := e == 0) (by simpa using he), ye (t := e != 0) (by simpa using he)] (by kernel_rfl) (by kernel_rfl)
 · exact fi [yt, na (t := e == 0) (by simpa using he), ye (t := e != 0) (by simpa using he)] (by kernel_rfl) (by kernel_rfl)
 · exact fi [yt, na (t := e == 0) (by simpa using he), ye (t := e != 0) (by simpa using he)] (by kernel_rfl) (by kernel_rfl)
 · exact fi [yt, na (t := e == 0) (by simpa using he), ye (t := e != 0) (by simpa using he)] (by kernel_rfl) (by kernel_rfl)
 · exact fi [nf, nf, ye (t := e != 0) (by simpa using he)] (by kernel_rfl) (by kernel_rfl)
/-- What was decoded ahead of the numbers. -/
structure CK (l L : List UInt8) (a0 a1 a2 a3 a4 : Int) (R : List (Int × Int)) (f0 f1 f2 f3 f4 : Int) (a b c : Nat) : Prop where
 h1 : W.dL 5 l = ([a0, a1, a2, a3, a4], a, 0)
 h2 : W.dEv (l.drop a) = (flatR R, b, 0)
 h3 : W.dL 5 ((l.drop a).drop b) = ([f0, f1, f2, f3, f4], c, 0)
 hL : L = ((l.drop a).drop b).drop c
 ha : a + b + c ≤ l.length
 hb : l.length ≤ 1000000
 hR : R.length ≤ 1000000
noncomputable def cR (l M : List UInt8) (a0 a1 a2 a3 a4 : Int) (R : List (Int × Int)) (f0 f1 f2 f3 f4 : Int) (i : Nat) (X : List V) : St := at_ fDc [(0, .sl (byL l)), (2, .lp 0 0), (5, .lp 1 0), (6, .lp 2 0), (8, zl [a0, a1, a2, a3, a4]), (9, zl (flatR R)), (10, zl [f0, f1, f2, f3, f4]), (11, .lp 3 0), (12, ni (i : Int))] [.bx 43 zC27, .bx 23 [.sl (byL M)], .bx 50 [ni 0], .bx 66 X]
noncomputable def X6 (q0 q1 q2 q3 q4 q5 : Rat) : List V := dR q0 ++ (dR q1 ++ (dR q2 ++ (dR q3 ++ (dR q4 ++ dR q5))))
noncomputable def crS (a0 a1 a2 a3 a4 f0 f1 f2 f3 f4 : Int) (l : List UInt8) (R : List (Int × Int)) (more : List (Nat × V)) : List V := (at_ fDc ([(0, .sl (byL l)), (2, .lp 0 0), (5, .lp 1 0), (10, zl [f0, f1, f2, f3, f4]), (11, .lp 3 0), (16, .lp 4 0)] ++ more) []).t
noncomputable def crB (M : List UInt8) (X : List V) (a0 a1 a2 a3 a4 : Int) (xs : List (Int × Int)) : List HO := [.bx 43 zC27, .bx 23 [.sl (byL M)], .dead, .bx 66 X, .bx 43 [ni a0, ni a1, ni a2, ni a3, .ow 7, ni 0, ni 0, ni 0, ni 0, ni 0, bo false, .nl, bo false, .nl, bo false, .nl, bo false, .nl, bo false, .nl, bo false, .nl, bo false, .nl, bo false, .nl, bo false, .nl, bo false, .nl, bo false, .nl, bo false, .nl, ni a4], .dead, .dead, .rw 58 2 (rfs xs)]
theorem cd_6 (K : CK l L a0 a1 a2 a3 a4 R f0 f1 f2 f3 f4 a b c) (hM : M = L.drop p) (hp : p ≤ L.length) (hI : W.dN decQ 6 L = ([q0, q1, q2, q3, q4, q5], p, 0)) : Gd PP 14 (.v (tuC (decC l))) (lp fDc 0) (cR l M a0 a1 a2 a3 a4 R f0 f1 f2 f3 f4 6 (X6 q0 q1 q2 q3 q4 q5)) := by
 have hR := K.hR
 have ha := K.ha
 have hb := K.hb
 have hLl : L.length = l.length - a - b - c := by rw [K.hL]; simp only [List.length_drop]
 have hMl : M.length = L.length - p := by rw [hM]; simp
 rw [K.hL] at hI
 rw [decC_0 K.h1 K.h2 K.h3 hI]
 have hc : mkC ([a0, a1, a2, a3, a4], flatR R, [f0, f1, f2, f3, f4], [q0, q1, q2, q3, q4, q5]) = ⟨a0, a1, a2, a3, R, ⟨f0, f1, f2, f3, f4, q0, q1, q2, q3, q4, q5⟩, a4⟩ := by
  unfold mkC
  rw [pairs_flat]
  rfl
 rw [hc]
 refine .to mo_ [.fz 70, .oc 4 4 (.rw 58 2 [])] [0, 2, 5, 10, 11, 16, 70] [0, 1, 3, 4, 7] 8 [nf, nf, nf, .sel (zs [a0, a1, a2, a3, a4]) 0 [ni a0] rfl, .sel (zs [a0, a1, a2, a3, a4]) 1 [ni a1] rfl, .sel (zs [a0, a1, a2, a3, a4]) 2 [ni a2] rfl, .sel (zs [a0, a1, a2, a3, a4]) 3 [ni a3] rfl, .sel (zs [a0, a1, a2, a3, a4]) 4 [ni a4] rfl, .lend _ _ _ _ [] (e_chunk (E := flatR R))] (td' := rfI fDc) (σ' := ⟨crS a0 a1 a2 a3 a4 f0 f1 f2 f3 f4 l R [(70, .cl 68 (ckC R))], crB M (X6 q0 q1 q2 q3 q4 q5) a0 a1 a2 a3 a4 []⟩) ?_ (by kernel_rfl)
 refine Gd.rangeF mo_ (fn_of (f := 14) (by kernel_rfl)).1 (k := (rf fDc).2.2.2.2) (σ := ⟨crS a0 a1 a2 a3 a4 f0 f1 f2 f3 f4 l R [(70, .cl 68 (ckC R))], _⟩) (gf := 68) (caps := ckC R) (by kernel_rfl) (it_chunk hR) (fun x => by kernel_rfl) (fun b => Nat.beq b 7) (by kernel_rfl)
  (fun pre => crB M (X6 q0 q1 q2 q3 q4 q5) a0 a1 a2 a3 a4 pre) rfl (fun pre => ⟨rfl, fun b => ?_⟩) (fun x => crS a0 a1 a2 a3 a4 f0 f1 f2 f3 f4 l R [(17, .sl (zs [x.1, x.2])), (70, .cl 68 (ckC R)), (71, .sl (zs [x.1, x.2]))]) (fun pre x => .of [] [0, 2, 5, 10, 11, 16, 17, 70, 71] [0, 1, 3, 4, 7] [] (by kernel_rfl)) (fun _ => True) trivial (fun pre x hlt _ => ⟨trivial, ?_⟩) (fun xs hS _ => ?_)
 · match b with
   | 0 | 1 | 2 | 3 | 4 | 5 | 6 | 7 => rfl
   | b + 8 => rfl
 · have hx : rfs pre ++ rfs [x] = rfs (pre ++ [x]) := by unfold rfs; rw [List.map_append]
   exact RnM.ofH [.mv 7 9] [] [0, 1, 3, 4, 7] [.sel (zs [x.1, x.2]) 0 [ni x.1] rfl, .sel (zs [x.1, x.2]) 1 [ni x.2] rfl, .app (rfs pre) (rfs [x]) (rfs (pre ++ [x])) 2000000 hx (Nat.zero_lt_one) (by rw [rfs_len, List.length_append]; simp; omega)] (by kernel_rfl)
 · subst hS
   exact fi [.sel (zs [f0, f1, f2, f3, f4]) 0 [ni f0] rfl, .sel (zs [f0, f1, f2, f3, f4]) 1 [ni f1] rfl, .sel (zs [f0, f1, f2, f3, f4]) 2 [ni f2] rfl, .sel (zs [f0, f1, f2, f3, f4]) 3 [ni f3] rfl, .sel (zs [f0, f1, f2, f3, f4]) 4 [ni f4] rfl, lnq 118 l, lnq 120 M, wq 121 ((l.length : Int) - (M.length : Int)) ((a + (b + (c + p)) : Nat) : Int) (by omega)] (by kernel_rfl) (by kernel_rfl)
theorem cd_5 (K : CK l L a0 a1 a2 a3 a4 R f0 f1 f2 f3 f4 a b c) (hM : M = L.drop p) (hp : p ≤ L.length) (hI : W.dN decQ 6 L = W.seqD decQ L (0 + 1) p [q0, q1, q2, q3, q4]) : Gd PP 14 (.v (tuC (decC l))) (lp fDc 0) (cR l M a0 a1 a2 a3 a4 R f0 f1 f2 f3 f4 5 (dR q0 ++ (dR q1 ++ (dR q2 ++ (dR q3 ++ (dR q4 ++ (z4))))))) := by
 have hb := K.hb
 have ha := K.ha
 have hLl : L.length = l.length - a - b - c := by rw [K.hL]; simp only [List.length_drop]
 have hMl : M.length = L.length - p := by rw [hM]; simp
 have c1 := e_rdec M (by omega)
 have hle := decQ_le M
 rcases hd : decQ M with ⟨q, u, e⟩
 rw [hd] at c1 hle
 simp only at hle
 by_cases he : e = 0
 · subst he
   rw [W.seqD_0 (by rw [← hM]; exact hd)] at hI
   exact .to mo_ [] [0, 2, 5, 6, 8, 9, 10, 11, 12] [0, 1, 2, 3] 4 [yt, yt, cl c1, yt, slD M u hle] (cd_6 (M := M.drop u) (p := p + u) K (by rw [hM, List.drop_drop]) (by omega) hI) (by kernel_rfl)
 · rw [W.seqD_e (by rw [← hM]; exact hd) he, K.hL] at hI
   rw [decC_4 K.h1 K.h2 K.h3 hI he]
   exact .to mo_ [] [2, 6, 12] [0, 2] 3 [yt, yt, cl c1, na (t := e == 0) (by simpa using he)] (cd_bad 6 (by omega) he) (by kernel_rfl)
theorem cd_4 (K : CK l L a0 a1 a2 a3 a4 R f0 f1 f2 f3 f4 a b c) (hM : M = L.drop p) (hp : p ≤ L.length) (hI : W.dN decQ 6 L = W.seqD decQ L (1 + 1) p [q0, q1, q2, q3]) : Gd PP 14 (.v (tuC (decC l))) (lp fDc 0) (cR l M a0 a1 a2 a3 a4 R f0 f1 f2 f3 f4 4 (dR q0 ++ (dR q1 ++ (dR q2 ++ (dR q3 ++ (z4 ++ (z4))))))) := by
 have hb := K.hb
 have ha := K.ha
 have hLl : L.length = l.length - a - b - c := by rw [K.hL]; simp only [List.length_drop]
 have hMl : M.length = L.length - p := by rw [hM]; simp
 have c1 := e_rdec M (by omega)
 have hle := decQ_le M
 rcases hd : decQ M with ⟨q, u, e⟩
 rw [hd] at c1 hle
 simp only at hle
 by_cases he : e = 0
 · subst he
   rw [W.seqD_0 (by rw [← hM]; exact hd)] at hI
   exact .to mo_ [] [0, 2, 5, 6, 8, 9, 10, 11, 12] [0, 1, 2, 3] 4 [yt, yt, cl c1, yt, slD M u hle] (cd_5 (M := M.drop u) (p := p + u) K (by rw [hM, List.drop_drop]) (by omega) hI) (by kernel_rfl)
 · rw [W.seqD_e (by rw [← hM]; exact hd) he, K.hL] at hI
   rw [decC_4 K.h1 K.h2 K.h3 hI he]
   exact .to mo_ [] [2, 6, 12] [0, 2] 3 [yt, yt, cl c1, na (t := e == 0) (by simpa using he)] (cd_bad 5 (by omega) he) (by kernel_rfl)
theorem cd_3 (K : CK l L a0 a1 a2 a3 a4 R f0 f1 f2 f3 f4 a b c) (hM : M = L.drop p) (hp : p ≤ L.length) (hI : W.dN decQ 6 L = W.seqD decQ L (2 + 1) p [q0, q1, q2]) : Gd PP 14 (.v (tuC (decC l))) (lp fDc 0) (cR l M a0 a1 a2 a3 a4 R f0 f1 f2 f3 f4 3 (dR q0 ++ (dR q1 ++ (dR q2 ++ (z4 ++ (z4 ++ (z4))))))) := by
 have hb := K.hb
 have ha := K.ha
 have hLl : L.length = l.length - a - b - c := by rw [K.hL]; simp only [List.length_drop]
 have hMl : M.length = L.length - p := by rw [hM]; simp
 have c1 := e_rdec M (by omega)
 have hle := decQ_le M
 rcases hd : decQ M with ⟨q, u, e⟩
 rw [hd] at c1 hle
 simp only at hle
 by_cases he : e = 0
 · subst he
   rw [W.seqD_0 (by rw [← hM]; exact hd)] at hI
   exact .to mo_ [] [0, 2, 5, 6, 8, 9, 10, 11, 12] [0, 1, 2, 3] 4 [yt, yt, cl c1, yt, slD M u hle] (cd_4 (M := M.drop u) (p := p + u) K (by rw [hM, List.drop_drop]) (by omega) hI) (by kernel_rfl)
 · rw [W.seqD_e (by rw [← hM]; exact hd) he, K.hL] at hI
   rw [decC_4 K.h1 K.h2 K.h3 hI he]
   exact .to mo_ [] [2, 6, 12] [0, 2] 3 [yt, yt, cl c1, na (t := e == 0) (by simpa using he)] (cd_bad 4 (by omega) he) (by kernel_rfl)
theorem cd_2 (K : CK l L a0 a1 a2 a3 a4 R f0 f1 f2 f3 f4 a b c) (hM : M = L.drop p) (hp : p ≤ L.length) (hI : W.dN decQ 6 L = W.seqD decQ L (3 + 1) p [q0, q1]) : Gd PP 14 (.v (tuC (decC l))) (lp fDc 0) (cR l M a0 a1 a2 a3 a4 R f0 f1 f2 f3 f4 2 (dR q0 ++ (dR q1 ++ (z4 ++ (z4 ++ (z4 ++ (z4))))))) := by
 have hb := K.hb
 have ha := K.ha
 have hLl : L.length = l.length - a - b - c := by rw [K.hL]; simp only [List.length_drop]
 have hMl : M.length = L.length - p := by rw [hM]; simp
 have c1 := e_rdec M (by omega)
 have hle := decQ_le M
 rcases hd : decQ M with ⟨q, u, e⟩
 rw [hd] at c1 hle
 simp only at hle
 by_cases he : e = 0
 · subst he
   rw [W.seqD_0 (by rw [← hM]; exact hd)] at hI
   exact .to mo_ [] [0, 2, 5, 6, 8, 9, 10, 11, 12] [0, 1, 2, 3] 4 [yt, yt, cl c1, yt, slD M u hle] (cd_3 (M := M.drop u) (p := p + u) K (by rw [hM, List.drop_drop]) (by omega) hI) (by kernel_rfl)
 · rw [W.seqD_e (by rw [← hM]; exact hd) he, K.hL] at hI
   rw [decC_4 K.h1 K.h2 K.h3 hI he]
   exact .to mo_ [] [2, 6, 12] [0, 2] 3 [yt, yt, cl c1, na (t := e == 0) (by simpa using he)] (cd_bad 3 (by omega) he) (by kernel_rfl)
theorem cd_1 (K : CK l L a0 a1 a2 a3 a4 R f0 f1 f2 f3 f4 a b c) (hM : M = L.drop p) (hp : p ≤ L.length) (hI : W.dN decQ 6 L = W.seqD decQ L (4 + 1) p [q0]) : Gd PP 14 (.v (tuC (decC l))) (lp fDc 0) (cR l M a0 a1 a2 a3 a4 R f0 f1 f2 f3 f4 1 (dR q0 ++ (z4 ++ (z4 ++ (z4 ++ (z4 ++ (z4))))))) := by
 have hb := K.hb
 have ha := K.ha
 have hLl : L.length = l.length - a - b - c := by rw [K.hL]; simp only [List.length_drop]
 have hMl : M.length = L.length - p := by rw [hM]; simp
 have c1 := e_rdec M (by omega)
 have hle := decQ_le M
 rcases hd : decQ M with ⟨q, u, e⟩
 rw [hd] at c1 hle
 simp only at hle
 by_cases he : e = 0
 · subst he
   rw [W.seqD_0 (by rw [← hM]; exact hd)] at hI
   exact .to mo_ [] [0, 2, 5, 6, 8, 9, 10, 11, 12] [0, 1, 2, 3] 4 [yt, yt, cl c1, yt, slD M u hle] (cd_2 (M := M.drop u) (p := p + u) K (by rw [hM, List.drop_drop]) (by omega) hI) (by kernel_rfl)
 · rw [W.seqD_e (by rw [← hM]; exact hd) he, K.hL] at hI
   rw [decC_4 K.h1 K.h2 K.h3 hI he]
   exact .to mo_ [] [2, 6, 12] [0, 2] 3 [yt, yt, cl c1, na (t := e == 0) (by simpa using he)] (cd_bad 2 (by omega) he) (by kernel_rfl)
theorem cd_0 (K : CK l L a0 a1 a2 a3 a4 R f0 f1 f2 f3 f4 a b c) (hM : M = L.drop p) (hp : p ≤ L.length) (hI : W.dN decQ 6 L = W.seqD decQ L (5 + 1) p []) : Gd PP 14 (.v (tuC (decC l))) (lp fDc 0) (cR l M a0 a1 a2 a3 a4 R f0 f1 f2 f3 f4 0 (z4 ++ (z4 ++ (z4 ++ (z4 ++ (z4 ++ (z4))))))) := by
 have hb := K.hb
 have ha := K.ha
 have hLl : L.length = l.length - a - b - c := by rw [K.hL]; simp only [List.length_drop]
 have hMl : M.length = L.length - p := by rw [hM]; simp
 have c1 := e_rdec M (by omega)
 have hle := decQ_le M
 rcases hd : decQ M with ⟨q, u, e⟩
 rw [hd] at c1 hle
 simp only at hle
 by_cases he : e = 0
 · subst he
   rw [W.seqD_0 (by rw [← hM]; exact hd)] at hI
   exact .to mo_ [] [0, 2, 5, 6, 8, 9, 10, 11, 12] [0, 1, 2, 3] 4 [yt, yt, cl c1, yt, slD M u hle] (cd_1 (M := M.drop u) (p := p + u) K (by rw [hM, List.drop_drop]) (by omega) hI) (by kernel_rfl)
 · rw [W.seqD_e (by rw [← hM]; exact hd) he, K.hL] at hI
   rw [decC_4 K.h1 K.h2 K.h3 hI he]
   exact .to mo_ [] [2, 6, 12] [0, 2] 3 [yt, yt, cl c1, na (t := e == 0) (by simpa using he)] (cd_bad 1 (by omega) he) (by kernel_rfl)
end
end Go.Proofs.YtjegnmlchioofaaGreatDoor.E.Ca
namespace Go.Proofs.YtjegnmlchioofaaGreatDoor.E.Ca
open Go.RowKit
set_option linter.unusedVariables false
set_option linter.unusedSimpArgs false
theorem five_of {α : Type} {l : List α} (h : l.length = 5) : ∃ a b c d e, l = [a, b, c, d, e] := by
 match l, h with
 | [a, b, c, d, e], _ => exact ⟨a, b, c, d, e, rfl⟩
theorem decI_le (l : List UInt8) : (W.decI l).1.length ≤ l.length ∧ (W.decI l).2.1 ≤ l.length := W.decL_le W.codec_int l
theorem e_cdec (l : List UInt8) (hb : l.length ≤ 1000000) : Pure PP 14 [.sl (byL l)] (tuC (decC l)) := by
 have c1 := e_wgetints l hb
 have k1 := decI_le l
 rcases hd1 : W.decI l with ⟨A, a, e1⟩
 rw [hd1] at c1 k1
 simp only at k1
 by_cases he1 : e1 = 0
 · subst he1
   by_cases hA : A.length = 5
   · have g1 := e_cg_3 36 c1 (by have := e_five2 A.length; rwa [decide_eq_true (by omega)] at this) k1.2
     have r1 := W.dL_0 5 hd1 hA
     have c2 := e_wgetints (l.drop a) (by rw [List.length_drop]; omega)
     have k2 := decI_le (l.drop a)
     rcases hd2 : W.decI (l.drop a) with ⟨E, b, e2⟩
     rw [hd2] at c2 k2
     simp only [List.length_drop] at k2
     by_cases he2 : e2 = 0
     · subst he2
       by_cases hE : E.length % 2 = 0
       · have g2 := e_cg_3 37 c2 (by have := e_even E.length; rwa [decide_eq_true hE] at this) (by rw [List.length_drop]; exact k2.2)
         have r2 := W.dEv_0 hd2 hE
         have c3 := e_wgetints ((l.drop a).drop b) (by simp only [List.length_drop]; omega)
         have k3 := decI_le ((l.drop a).drop b)
         rcases hd3 : W.decI ((l.drop a).drop b) with ⟨F, c, e3⟩
         rw [hd3] at c3 k3
         simp only [List.length_drop] at k3
         by_cases he3 : e3 = 0
         · subst he3
           by_cases hF : F.length = 5
           · have g3 := e_cg_3 38 c3 (by have := e_five4 F.length; rwa [decide_eq_true (by omega)] at this) (by simp only [List.length_drop]; exact k3.2)
             have r3 := W.dL_0 5 hd3 hF
             obtain ⟨a0, a1, a2, a3, a4, rfl⟩ := five_of hA
             obtain ⟨f0, f1, f2, f3, f4, rfl⟩ := five_of hF
             obtain ⟨R, rfl⟩ : ∃ R, E = flatR R := ⟨pairs E, (flat_pairs E hE).symm⟩
             rw [flatR_len] at k2
             exact pf (by kernel_rfl) (.to mo_ [] [0, 2, 5, 6, 8, 9, 10, 11, 12] [0, 1, 2, 3] 4 [.lend _ _ _ _ [2, 1] g1, .lend _ _ _ _ [2, 1] g2, .lend _ _ _ _ [2, 1] g3] (cd_0 (p := 0) (M := ((l.drop a).drop b).drop c) ⟨r1, r2, r3, rfl, by omega, hb, by omega⟩ rfl (Nat.zero_le _) rfl) (by kernel_rfl))
           · have g3 := e_cg_2 38 c3 (by have := e_five4 F.length; rwa [decide_eq_false (by omega)] at this)
             rw [decC_3 r1 r2 (W.dL_n 5 hd3 hF) (by decide)]
             exact pf (by kernel_rfl) (.to mo_ [] [2, 6, 12] [0, 2] 3 [.lend _ _ _ _ [2, 1] g1, .lend _ _ _ _ [2, 1] g2, .lend _ _ _ _ [2, 1] g3] (cd_bad 0 (by decide) (by decide)) (by kernel_rfl))
         · have g3 := e_cg_1 38 c3 he3
           rw [decC_3 r1 r2 (W.dL_e 5 hd3 he3) he3]
           exact pf (by kernel_rfl) (.to mo_ [] [2, 6, 12] [0, 2] 3 [.lend _ _ _ _ [2, 1] g1, .lend _ _ _ _ [2, 1] g2, .lend _ _ _ _ [2, 1] g3] (cd_bad 0 (by decide) he3) (by kernel_rfl))
       · have g2 := e_cg_2 37 c2 (by have := e_even E.length; rwa [decide_eq_false hE] at this)
         have g3 := e_cg_0 (e := 2) (l := l.drop a) 38 (by decide)
         rw [decC_2 r1 (W.dEv_n hd2 hE) (by decide)]
         exact pf (by kernel_rfl) (.to mo_ [] [2, 6, 12] [0, 2] 3 [.lend _ _ _ _ [2, 1] g1, .lend _ _ _ _ [2, 1] g2, .lend _ _ _ _ [2, 1] g3] (cd_bad 0 (by decide) (by decide)) (by kernel_rfl))
     · have g2 := e_cg_1 37 c2 he2
       have g3 := e_cg_0 (l := l.drop a) 38 he2
       rw [decC_2 r1 (W.dEv_e hd2 he2) he2]
       exact pf (by kernel_rfl) (.to mo_ [] [2, 6, 12] [0, 2] 3 [.lend _ _ _ _ [2, 1] g1, .lend _ _ _ _ [2, 1] g2, .lend _ _ _ _ [2, 1] g3] (cd_bad 0 (by decide) he2) (by kernel_rfl))
   · have g1 := e_cg_2 36 c1 (by have := e_five2 A.length; rwa [decide_eq_false (by omega)] at this)
     have g2 := e_cg_0 (e := 2) (l := l) 37 (by decide)
     have g3 := e_cg_0 (e := 2) (l := l) 38 (by decide)
     rw [decC_1 (W.dL_n 5 hd1 hA) (by decide)]
     exact pf (by kernel_rfl) (.to mo_ [] [2, 6, 12] [0, 2] 3 [.lend _ _ _ _ [2, 1] g1, .lend _ _ _ _ [2, 1] g2, .lend _ _ _ _ [2, 1] g3] (cd_bad 0 (by decide) (by decide)) (by kernel_rfl))
 · have g1 := e_cg_1 36 c1 he1
   have g2 := e_cg_0 (l := l) 37 he1
   have g3 := e_cg_0 (l := l) 38 he1
   rw [decC_1 (W.dL_e 5 hd1 he1) he1]
   exact pf (by kernel_rfl) (.to mo_ [] [2, 6, 12] [0, 2] 3 [.lend _ _ _ _ [2, 1] g1, .lend _ _ _ _ [2, 1] g2, .lend _ _ _ _ [2, 1] g3] (cd_bad 0 (by decide) he1) (by kernel_rfl))
end Go.Proofs.YtjegnmlchioofaaGreatDoor.E.Ca
namespace Go.Proofs.YtjegnmlchioofaaGreatDoor.E.Ca
open Go.RowKit
set_option linter.unusedVariables false
set_option linter.unusedSimpArgs false
/-- Claims whose rational numbers are such, with few references. -/
def Qc (c : CM) : Prop := ∃ q : CQ, c = q.cm ∧ q.refs.length ≤ 10
theorem Qc.c0 : Qc c0 := ⟨⟨0, 0, 0, 0, [], zQ, 0⟩, by unfold CQ.cm; simp only [zQ_fm], by decide⟩
section
variable {l : List Int} {i : Nat} {b s t kd : Int} {rf : List (Int × Int)}
theorem clG_q (hr : rf.length ≤ 10) : Qc (clG l i b s t rf kd) := by
 unfold clG
 split
 · exact ⟨⟨b, s, t, 0, [], zQ, 1 + atz l (5 * i + 4) 8⟩, by unfold CQ.cm; simp only [zQ_fm], by simp⟩
 · exact ⟨⟨b, s, t, 1, rf, fitQ l (5 * i + 2), 0⟩, rfl, hr⟩
 · exact ⟨⟨b, s, t, kd, rf, zQ, 0⟩, by unfold CQ.cm; simp only [zQ_fm], hr⟩
theorem good_q : ∀ i, i ≤ 10 → ∀ c ∈ (goodF l i).1, Qc c
 | 0, _, c, hc => by cases hc
 | i + 1, hi, c, hc => by
  have ih := good_q i (by omega)
  have hl := good_len (l := l) i
  rcases List.mem_append.1 hc with h | h
  · exact ih c h
  · rw [List.mem_singleton] at h
    subst h
    refine clG_q ?_
    unfold rfG
    have := refsF_len (L := (goodF l i).1) (bits := bitsG l i) (goodF l i).1.length
    omega
theorem goodL_q : ∀ c ∈ goodL l, Qc c := good_q _ (Nat.min_le_left _ _)
theorem getD_q {L : List CM} (h : ∀ c ∈ L, Qc c) (i : Nat) : Qc (L.getD i c0) := by
 rw [List.getD_eq_getElem?_getD]
 cases e : L[i]? with
 | none => exact Qc.c0
 | some c => exact h c (List.mem_of_getElem? e)
theorem someC_q {c : CM} (h : Qc c) : Qc (someC l i c) := by
 obtain ⟨q, rfl, hq⟩ := h
 unfold someC
 split
 · exact ⟨⟨q.by_, atz l (5 * i + 2) 2, atz l (5 * i + 3) 3, 3, [(atz l (5 * i + 3) 2, atz l (5 * i + 1) 2), (atz l (5 * i) 1, (atz l (5 * i + 4) 3).tdiv 2)], q.fit, q.w⟩, rfl, by simp⟩
 · exact ⟨⟨q.by_, atz l (5 * i + 2) 2, atz l (5 * i + 3) 3, q.kind, q.refs, q.fit, q.w⟩, rfl, hq⟩
theorem some_q : ∀ i, ∀ c ∈ someF l i, Qc c
 | 0, c, hc => by cases hc
 | i + 1, c, hc => by
  rcases List.mem_append.1 hc with h | h
  · exact some_q i c h
  · rw [List.mem_singleton] at h
    subst h
    exact someC_q (getD_q goodL_q i)
theorem someL_len (l : List Int) : (someL l).length ≤ 10 := by unfold someL; rw [some_len]; exact goodL_len l
end
section
variable {l : List Int} {how n : Int} {S : List CM} {i k j : Nat} {a : Bool}
def ltS (S : List CM) (i : Nat) : Bool := decide ((i : Int) < ((S.map dC).length : Int))
theorem ltS_t (h : i < S.length) : ltS S i = true := decide_eq_true (by rw [List.length_map]; omega)
theorem ltS_f (h : ¬ i < S.length) : ltS S i = false := decide_eq_false (by rw [List.length_map]; omega)
end
end Go.Proofs.YtjegnmlchioofaaGreatDoor.E.Ca

namespace Go.Proofs.YtjegnmlchioofaaGreatDoor.E.Ca
open Go.RowKit
set_option linter.unusedVariables false
set_option linter.unusedSimpArgs false
section
variable {l : List Int} {i k j : Nat} {c d : CM} {how n more m : Int} {lo : List (Int × Int)}
def FB (c : CM) : Prop := FBits 100 c.fit
theorem clG_fb {b s t kd : Int} {rf : List (Int × Int)} : FB (clG l i b s t rf kd) := by
 unfold clG FB
 split
 · exact zF_bits
 · exact fit_bits l _
 · exact zF_bits
theorem good_fb : ∀ i, ∀ c ∈ (goodF l i).1, FB c
 | 0, c, hc => by cases hc
 | i + 1, c, hc => by
  rcases List.mem_append.1 hc with h | h
  · exact good_fb i c h
  · rw [List.mem_singleton] at h
    subst h
    exact clG_fb
end
end Go.Proofs.YtjegnmlchioofaaGreatDoor.E.Ca
namespace Go.Proofs.YtjegnmlchioofaaGreatDoor.E.Ca
open Go.RowKit
set_option linter.unusedVariables false
set_option linter.unusedSimpArgs false
theorem sm64 {x : Int} (h : -2000 ≤ x ∧ x ≤ 2000) : W.Is64 x := by unfold W.Is64; omega
structure G64 (c : CM) : Prop where
 h : W.Is64 c.by_ ∧ W.Is64 c.seq ∧ W.Is64 c.tick ∧ W.Is64 c.kind ∧ W.Is64 c.w
 r : ∀ p ∈ c.refs, W.Is64 p.1 ∧ W.Is64 p.2
 f : W.Is64 c.fit.a ∧ W.Is64 c.fit.b ∧ W.Is64 c.fit.ea ∧ W.Is64 c.fit.eb ∧ W.Is64 c.fit.many
section
variable {l : List Int} {i : Nat} {b s t kd n : Int} {rf : List (Int × Int)} {c : CM} {L : List CM}
theorem z64 : W.Is64 0 := sm64 (by omega)
theorem zF_64 : W.Is64 zF.a ∧ W.Is64 zF.b ∧ W.Is64 zF.ea ∧ W.Is64 zF.eb ∧ W.Is64 zF.many := ⟨z64, z64, z64, z64, z64⟩
theorem c0_64 : G64 c0 := ⟨⟨z64, z64, z64, z64, z64⟩, fun p hp => by simp at hp, zF_64⟩
theorem atz_64 {m : Nat} (h : m ≤ 1000) : W.Is64 (atz l i m) := by have := atz_in l i m; exact sm64 (by omega)
theorem clG_64 (hb : W.Is64 b) (hs : W.Is64 s) (ht : W.Is64 t) (hk : W.Is64 kd) (hr : ∀ p ∈ rf, W.Is64 p.1 ∧ W.Is64 p.2) : G64 (clG l i b s t rf kd) := by
 unfold clG
 split
 · exact ⟨⟨hb, hs, ht, z64, by have := atz_in l (5 * i + 4) 8; exact sm64 (x := 1 + atz l (5 * i + 4) 8) (by omega)⟩, fun p hp => by simp at hp, zF_64⟩
 · refine ⟨⟨hb, hs, ht, sm64 (x := 1) (by omega), z64⟩, hr, ?_⟩
   have h1 := atz_in l (5 * i + 2) 2
   have h2 := atz_in l (5 * i + 2 + 1) 1
   have h3 := atz_in l (5 * i + 2 + 2) 11
   have h4 := atz_in l (5 * i + 2 + 3) 11
   have h5 := atz_in l (5 * i + 2 + 4) 2
   refine ⟨sm64 (x := atz l (5 * i + 2) 2) (by omega), sm64 (x := atz l (5 * i + 2) 2 + 1 + atz l (5 * i + 2 + 1) 1) (by omega), sm64 (x := atz l (5 * i + 2 + 2) 11) (by omega), sm64 (x := atz l (5 * i + 2 + 3) 11) (by omega), sm64 (x := 1 + atz l (5 * i + 2 + 4) 2) (by omega)⟩
 · exact ⟨⟨hb, hs, ht, hk, z64⟩, hr, zF_64⟩
theorem getD_64 (h : ∀ c ∈ L, G64 c) (i : Nat) : G64 (L.getD i c0) := by
 rw [List.getD_eq_getElem?_getD]
 cases e : L[i]? with
 | none => exact c0_64
 | some c => exact h c (List.mem_of_getElem? e)
theorem refs_64 (h : ∀ c ∈ L, G64 c) (bits : Int) : ∀ k, ∀ p ∈ refsF L bits k, W.Is64 p.1 ∧ W.Is64 p.2
 | 0, p, hp => by simp [refsF] at hp
 | k + 1, p, hp => by
  have ih := refs_64 h bits k
  unfold refsF at hp
  split at hp
  · unfold insN at hp
    rw [List.mem_append, List.mem_append, List.mem_singleton] at hp
    rcases hp with (hp | hp) | hp
    · exact ih p (List.mem_of_mem_take hp)
    · subst hp
      have := getD_64 h k
      exact ⟨this.h.1, this.h.2.1⟩
    · exact ih p (List.mem_of_mem_drop hp)
  · exact ih p hp
theorem good_64 : ∀ i, i ≤ 10 → ∀ c ∈ (goodF l i).1, G64 c
 | 0, _, c, hc => by cases hc
 | i + 1, hi, c, hc => by
  have ih := good_64 i (by omega)
  rcases List.mem_append.1 hc with h | h
  · exact ih c h
  · rw [List.mem_singleton] at h
    subst h
    have ht := good_tick (l := l) (i + 1)
    have ht' : (goodF l (i + 1)).2 = tkG (goodF l i).2 l i := rfl
    rw [ht'] at ht
    have hs := seq_le (goodF l i).1 (byG l i) (goodF l i).1.length
    have hl := good_len (l := l) i
    have hk := kdG_in l i
    refine clG_64 (atz_64 (by omega)) (sm64 (by omega)) (sm64 (by omega)) (sm64 ?_) (refs_64 ih _ _)
    unfold kd2
    split <;> omega
theorem goodL_64 : ∀ c ∈ goodL l, G64 c := good_64 _ (Nat.min_le_left _ _)
theorem someC_64 (h : G64 c) : G64 (someC l i c) := by
 have a2 := atz_in l (5 * i + 4) 3
 have d2 : W.Is64 ((atz l (5 * i + 4) 3).tdiv 2) := by
  refine sm64 ?_
  generalize atz l (5 * i + 4) 3 = x at a2
  have hx : x = 0 ∨ x = 1 ∨ x = 2 ∨ x = 3 := by omega
  rcases hx with rfl | rfl | rfl | rfl <;> decide
 unfold someC
 split
 · refine ⟨⟨h.h.1, atz_64 (by omega), atz_64 (by omega), sm64 (x := 3) (by omega), h.h.2.2.2.2⟩, fun p hp => ?_, h.f⟩
   simp only [List.mem_cons, List.not_mem_nil, or_false] at hp
   rcases hp with rfl | rfl
   · exact ⟨atz_64 (by omega), atz_64 (by omega)⟩
   · exact ⟨atz_64 (by omega), d2⟩
 · exact ⟨⟨h.h.1, atz_64 (by omega), atz_64 (by omega), h.h.2.2.2⟩, h.r, h.f⟩
theorem some_64 : ∀ i, ∀ c ∈ someF l i, G64 c
 | 0, c, hc => by cases hc
 | i + 1, c, hc => by
  rcases List.mem_append.1 hc with h | h
  · exact some_64 i c h
  · rw [List.mem_singleton] at h
    subst h
    exact someC_64 (getD_64 goodL_64 i)
theorem someC_fb (h : FB c) : FB (someC l i c) := by
 unfold someC
 split
 · exact h
 · exact h
theorem getD_fb (h : ∀ c ∈ L, FB c) (i : Nat) : FB (L.getD i c0) := by
 rw [List.getD_eq_getElem?_getD]
 cases e : L[i]? with
 | none => exact zF_bits
 | some c => exact h c (List.mem_of_getElem? e)
theorem some_fb : ∀ i, ∀ c ∈ someF l i, FB c
 | 0, c, hc => by cases hc
 | i + 1, c, hc => by
  rcases List.mem_append.1 hc with h | h
  · exact some_fb i c h
  · rw [List.mem_singleton] at h
    subst h
    exact someC_fb (getD_fb (good_fb _) i)
theorem dig_fs {n : Nat} (h : I.Can (digs n) → I.Bd 100 (I.val (digs n))) : (digs n).length ≤ 100 := by
 have h1 := h (digs_ok n).1
 rw [(digs_ok n).2] at h1
 have := bd_len h1
 rwa [Int.natAbs_natCast] at this
theorem fs_of {r : Rat} (h : Bn 100 (ofR r)) : Fs r := ⟨dig_fs h.1, dig_fs h.2⟩
/-- The generated claims have codes. -/
structure Gq (c : CM) (q : CQ) : Prop where
 e : c = q.cm
 s : Sq q
theorem gq_of (h : G64 c) (hf : FB c) {q : CQ} (e : c = q.cm) (hr : q.refs.length ≤ 20) : Gq c q := by
 subst e
 refine ⟨rfl, fun x hx => ?_, h.r, fun x hx => ?_, fun r hr => ?_, hr⟩
 · simp only [hdQ, List.mem_cons, List.not_mem_nil, or_false] at hx
   rcases hx with rfl | rfl | rfl | rfl | rfl
   · exact h.h.1
   · exact h.h.2.1
   · exact h.h.2.2.1
   · exact h.h.2.2.2.1
   · exact h.h.2.2.2.2
 · simp only [FQ.wh, List.mem_cons, List.not_mem_nil, or_false] at hx
   rcases hx with rfl | rfl | rfl | rfl | rfl
   · exact h.f.1
   · exact h.f.2.1
   · exact h.f.2.2.1
   · exact h.f.2.2.2.1
   · exact h.f.2.2.2.2
 · simp only [FQ.qs, List.mem_cons, List.not_mem_nil, or_false] at hr
   rcases hr with rfl | rfl | rfl | rfl | rfl | rfl <;> exact fs_of (hf _ (by simp [nu, CQ.cm, FQ.fm]))
theorem all_gq {c : CM} (h : c ∈ someL l ++ goodL l) : ∃ q, Gq c q ∧ q.refs.length ≤ 10 := by
 rcases List.mem_append.1 h with h | h
 · obtain ⟨q, e, hr⟩ := some_q _ c h
   exact ⟨q, gq_of (some_64 _ c h) (some_fb _ c h) e (by omega), hr⟩
 · obtain ⟨q, e, hr⟩ := goodL_q c h
   exact ⟨q, gq_of (goodL_64 c h) (good_fb _ c h) e (by omega), hr⟩
end
section
variable {c d : CQ}
theorem Sq.len (h : Sq c) : 0 < (encC c).length ∧ (encC c).length ≤ 20000 := by
 have h3 := enc3_len h
 have e3 := encC_3 c
 have q0 := (h.q c.fit.r0 (by simp [FQ.qs])).len; have q1 := (h.q c.fit.r1 (by simp [FQ.qs])).len; have q2 := (h.q c.fit.r2 (by simp [FQ.qs])).len; have q3 := (h.q c.fit.r3 (by simp [FQ.qs])).len; have q4 := (h.q c.fit.r4 (by simp [FQ.qs])).len; have q5 := (h.q c.fit.r5 (by simp [FQ.qs])).len
 rw [e3]
 simp only [FQ.qs, List.flatMap_cons, List.flatMap_nil, List.length_append, List.length_nil]
 omega
theorem eqP_iff : eqP c d ↔ c = d := by
 constructor
 · obtain ⟨a1, a2, a3, a4, a5, ⟨f1, f2, f3, f4, f5, r0, r1, r2, r3, r4, r5⟩, a7⟩ := c
   obtain ⟨b1, b2, b3, b4, b5, ⟨g1, g2, g3, g4, g5, s0, s1, s2, s3, s4, s5⟩, b7⟩ := d
   rintro ⟨h1, h2, h3, h4, h5, h6, h7, h8⟩
   simp only [FQ.wh, FQ.qs, List.cons.injEq, and_true] at h1 h2 h3 h4 h5 h6 h7 h8
   obtain ⟨rfl, rfl, rfl, rfl, rfl⟩ := h7
   obtain ⟨rfl, rfl, rfl, rfl, rfl, rfl⟩ := h8
   subst h1; subst h2; subst h3; subst h4; subst h5; subst h6
   rfl
 · rintro rfl
   exact ⟨rfl, rfl, rfl, rfl, rfl, rfl, rfl, rfl⟩
end
end Go.Proofs.YtjegnmlchioofaaGreatDoor.E.Ca
namespace Go.Proofs.YtjegnmlchioofaaGreatDoor.E
open Go.RowKit
set_option linter.unusedVariables false
theorem Pure.ro {P : Program} {f : FuncId} {ds : List V} {T z : Nat} {l : List (List V)} (h : Pure P f ds (.o T z l)) : Pure P f ds (.v (.sl l)) :=
 ⟨h.1, fun w M args hM hr => (h.2 w M args hM hr).mono fun e w' ⟨v, e1, ok, bel⟩ => ⟨v, e1, by
  obtain ⟨q1, xs, q2, q3, q4⟩ := ok
  show Rep w' M no v (.sl l)
  have hxl : xs.length = l.flatten.length := by rw [q2.1, flat_len q1]
  rcases q2.2 with ⟨rfl, e0⟩ | ⟨g, cap, cur, rfl, hB, hh, hnc, hcm, hcs', htk⟩
  · have h0 : l = [] := List.length_eq_zero_iff.1 e0
    subst h0
    exact .sl _ none 0 0 0 z [] (fun _ _ => undef) (Nat.le_refl _) (Nat.zero_le _) (fun h => by simp at h) (fun _ h => by simp at h) (fun i j cs x h => by simp at h) (fun i j cs x h => by simp at h)
  · refine .sl _ _ g 0 cap z l (fun i j => xs.getD (i * z + j) undef) hnc hcm (fun _ => ⟨rfl, fun hA => hB (hM g hA), ⟨cur, T, (0, 0), hh⟩⟩) q1 (fun i j cs x hi hj => ?_) (fun i j cs x hi hj => ?_)
    · have e1 := flat_get q1 hi hj
      have e2 := (List.getElem?_eq_some_iff.1 e1).1
      have e3 : xs[i * z + j]? = some (xs.getD (i * z + j) undef) := by rw [List.getD_eq_getElem?_getD, List.getElem?_eq_getElem (by omega)]; rfl
      have := row_cell q2 rfl e3
      rwa [show 0 + i * z + j = i * z + j by omega]
    · exact (q4 _ x (flat_get q1 hi hj)).mo ⟨Nat.le_refl _, fun _ _ _ => rfl, fun g e => .inl (.inl e), fun _ _ e => e⟩, bel⟩⟩
end Go.Proofs.YtjegnmlchioofaaGreatDoor.E
namespace Go.Proofs.YtjegnmlchioofaaGreatDoor
open Go.RowKit
theorem is64_of {n : Int} (h : (Lit.int .i64 n).wf = true) : W.Is64 n := by
 have := bounds_i64 h
 unfold W.Is64
 omega
end Go.Proofs.YtjegnmlchioofaaGreatDoor
