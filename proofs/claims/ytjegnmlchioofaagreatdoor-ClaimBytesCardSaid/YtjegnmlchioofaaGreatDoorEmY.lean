/-
 THE SECOND ENGINE, 14: code by itself (the rounds of a loop over a function).
-/
import Derived.Test.YtjegnmlchioofaaGreatDoorPlainX
import Derived.Test.YtjegnmlchioofaaGreatDoorEtE
import Derived.Test.YtjegnmlchioofaaGreatDoorEmL
namespace Go.Proofs.YtjegnmlchioofaaGreatDoor.E.Ca
open Go.RowKit
set_option linter.unusedVariables false
set_option linter.unusedSimpArgs false
def flatR (l : List (Int × Int)) : List Int := l.flatMap fun p => [p.1, p.2]
def hdQ (c : CQ) : List Int := [c.by_, c.seq, c.tick, c.kind, c.w]
def encC (c : CQ) : List UInt8 := W.encI (hdQ c) ++ (W.encI (flatR c.refs) ++ (W.encI c.fit.wh ++ c.fit.qs.flatMap encQ))
/-- Few digits. -/
def Fs (r : Rat) : Prop := (digs r.num.natAbs).length ≤ 100 ∧ (digs (dq r).natAbs).length ≤ 100
theorem Fs.fq {r : Rat} (h : Fs r) : Fq r := ⟨by have := h.1; omega, by have := h.2; omega⟩
theorem Fs.len {r : Rat} (h : Fs r) : 2 ≤ (encQ r).length ∧ (encQ r).length ≤ 1836 := by
 have h1 := encZ_len r.num
 have h2 := encZ_len (dq r)
 obtain ⟨h3, h4⟩ := h
 unfold encQ
 rw [List.length_append]
 omega
structure Sq (c : CQ) : Prop where
 h : ∀ x ∈ hdQ c, W.Is64 x
 r : ∀ p ∈ c.refs, W.Is64 p.1 ∧ W.Is64 p.2
 f : ∀ x ∈ c.fit.wh, W.Is64 x
 q : ∀ r ∈ c.fit.qs, Fs r
 n : c.refs.length ≤ 20
section
variable {c : CQ} {l : List (Int × Int)} {i : Nat}
theorem flatR_len (l : List (Int × Int)) : (flatR l).length = 2 * l.length := by
 unfold flatR
 induction l with
 | nil => rfl
 | cons p r ih => rw [List.flatMap_cons, List.length_append, ih]; simp; omega
theorem flatR_mem {x : Int} (h : x ∈ flatR l) : ∃ p ∈ l, x = p.1 ∨ x = p.2 := by
 obtain ⟨p, hp, hx⟩ := List.mem_flatMap.1 h
 simp at hx
 exact ⟨p, hp, hx⟩
theorem flatR_next {p : Int × Int} (h : l[i]? = some p) : flatR (l.take (i + 1)) = flatR (l.take i) ++ [p.1, p.2] := by
 unfold flatR
 rw [List.take_add_one, h, List.flatMap_append]
 simp
theorem rfs_at {p : Int × Int} (h : l[i]? = some p) : (rfs l)[i]? = some (E.nm p) := by unfold rfs; rw [List.getElem?_map, h]; rfl
theorem Sq.r64 (h : Sq c) : ∀ x ∈ flatR c.refs, W.Is64 x := fun x hx => by
 obtain ⟨p, hp, hx⟩ := flatR_mem hx
 rcases hx with rfl | rfl
 · exact (h.r p hp).1
 · exact (h.r p hp).2
theorem wlW (l : List Int) (hl : ∀ x ∈ l, W.Is64 x) (hb : l.length ≤ 100) : 0 < (W.encI l).length ∧ (W.encI l).length ≤ 909 := by
 have h1 := W.encI_le l
 have h2 := (W.enc_le (l.length : Int)).1
 refine ⟨by unfold W.encI; rw [List.length_append]; omega, by omega⟩
/-- The first three lists. -/
def enc3 (c : CQ) : List UInt8 := W.encI (hdQ c) ++ (W.encI (flatR c.refs) ++ W.encI c.fit.wh)
theorem encC_3 (c : CQ) : encC c = enc3 c ++ c.fit.qs.flatMap encQ := by unfold encC enc3; simp [List.append_assoc]
theorem enc3_len (h : Sq c) : 0 < (enc3 c).length ∧ (enc3 c).length ≤ 2727 := by
 have h1 := wlW (hdQ c) h.h (Nat.le_of_ble_eq_true rfl)
 have h2 := wlW (flatR c.refs) h.r64 (by rw [flatR_len]; have := h.n; omega)
 have h3 := wlW c.fit.wh h.f (Nat.le_of_ble_eq_true rfl)
 unfold enc3
 rw [List.length_append, List.length_append]
 omega
noncomputable abbrev fEn : Func := fnOf PP 8
noncomputable abbrev fE6 : Func := fnOf PP 10
theorem e_cenc (h : Sq c) : Pure PP 8 [.ag (dQ c)] (.o 5 1 (byL (encC c))) := by
 have hn := h.n
 have hr := h.r64
 have hrl := flatR_len c.refs
 have h3 := enc3_len h
 have e3 := encC_3 c
 have l1 := wlW (hdQ c) h.h (Nat.le_of_ble_eq_true rfl)
 have l2 := wlW (flatR c.refs) h.r64 (by omega)
 have l3 := wlW c.fit.wh h.f (Nat.le_of_ble_eq_true rfl)
 have cc := e_concatB (ls := [W.encI (hdQ c), W.encI (flatR c.refs), W.encI c.fit.wh]) (by simp; omega) (by simp; omega) (by simp) (fun b hb => by
  simp at hb
  rcases hb with rfl | rfl | rfl <;> omega)
 simp only [List.flatten_cons, List.flatten_nil, List.append_nil] at cc
 have q0 := h.q c.fit.r0 (by simp [FQ.qs]); have q1 := h.q c.fit.r1 (by simp [FQ.qs]); have q2 := h.q c.fit.r2 (by simp [FQ.qs]); have q3 := h.q c.fit.r3 (by simp [FQ.qs]); have q4 := h.q c.fit.r4 (by simp [FQ.qs]); have q5 := h.q c.fit.r5 (by simp [FQ.qs])
 have n0 := q0.len; have n1 := q1.len; have n2 := q2.len; have n3 := q3.len; have n4 := q4.len; have n5 := q5.len
 let X : Nat → St := fun i => at_ fEn [(1, .lp 0 0), (3, .sl (byL (W.encI (hdQ c)))), (4, .ow 2), (23, .sl (rfs c.refs)), (24, ni ((rfs c.refs).length : Int)), (25, ni i)] [.bx 43 (dQ c), .dead, .rw 3 1 (zs (flatR (c.refs.take i)))]
 let P : Nat → List UInt8 := fun i => enc3 c ++ (c.fit.qs.take i).flatMap encQ
 let Y : Nat → St := fun i => at_ fEn [(3, .ow 5), (49, .ag (nuV c.fit.fm)), (50, ni i)] [.dead, .dead, .dead, .dead, .dead, .rw 5 1 (byL (P i))]
 have p1 : P 1 = P 0 ++ encQ c.fit.r0 := by simp [P, FQ.qs]
 have p2 : P 2 = P 1 ++ encQ c.fit.r1 := by simp [P, FQ.qs]
 have p3 : P 3 = P 2 ++ encQ c.fit.r2 := by simp [P, FQ.qs]
 have p4 : P 4 = P 3 ++ encQ c.fit.r3 := by simp [P, FQ.qs]
 have p5 : P 5 = P 4 ++ encQ c.fit.r4 := by simp [P, FQ.qs]
 have p6 : P 6 = P 5 ++ encQ c.fit.r5 := by simp [P, FQ.qs]
 have pe : P 6 = encC c := by rw [e3]; rfl
 have pz : W.encI (hdQ c) ++ (W.encI (flatR c.refs) ++ W.encI c.fit.wh) = P 0 := by simp [P, enc3]
 rw [pz] at cc
 have pl0 : (P 0).length = (enc3 c).length := by simp [P]
 have pl1 : (P 1).length = (P 0).length + (encQ c.fit.r0).length := by rw [p1, List.length_append]
 have pl2 : (P 2).length = (P 1).length + (encQ c.fit.r1).length := by rw [p2, List.length_append]
 have pl3 : (P 3).length = (P 2).length + (encQ c.fit.r2).length := by rw [p3, List.length_append]
 have pl4 : (P 4).length = (P 3).length + (encQ c.fit.r3).length := by rw [p4, List.length_append]
 have pl5 : (P 5).length = (P 4).length + (encQ c.fit.r4).length := by rw [p5, List.length_append]
 have pl6 : (P 6).length = (P 5).length + (encQ c.fit.r5).length := by rw [p6, List.length_append]
 refine pf (by kernel_rfl) (.to mo_ [.ow 4 (.rw 3 1 [])] [1, 3, 4, 23, 24, 25] [0, 2] 3 [.newr false true _ _ _ _ _ (e_wints h.h (Nat.le_of_ble_eq_true rfl)) (byL_k _)] (td' := lp fEn 0) (σ' := X 0) ?_ (by kernel_rfl))
 refine Gd.loop X (fun i => i ≤ c.refs.length) (fun i => c.refs.length - i) ?_ 0 (Nat.zero_le _)
 intro i hi ih
 by_cases hlt : i < c.refs.length
 · obtain ⟨p, hp, _⟩ := get_of hlt
   have hnx := flatR_next hp
   have hl2 := flatR_len (c.refs.take (i + 1))
   rw [List.length_take] at hl2
   exact .to mo_ [.mv 2 5] [1, 3, 4, 23, 24, 25] [0, 2] 3 [ye (t := decide ((i : Int) < ((rfs c.refs).length : Int))) (decide_eq_true (by rw [rfs_len]; omega)), .sel _ _ _ (rfs_at hp), .app (zs (flatR (c.refs.take i))) (zs [p.1, p.2]) (zs (flatR (c.refs.take (i + 1)))) 1000 (by rw [hnx, zs_app]) (Nat.zero_lt_succ _) (by rw [zs_len]; omega), inc 36 i (by omega)] (ih (i + 1) hlt (by omega)) (by kernel_rfl)
 · have hi2 : i = c.refs.length := by omega
   subst hi2
   have ht : c.refs.take c.refs.length = c.refs := List.take_length
   have hX : X c.refs.length = at_ fEn [(1, .lp 0 0), (3, .sl (byL (W.encI (hdQ c)))), (4, .ow 2), (23, .sl (rfs c.refs)), (24, ni ((rfs c.refs).length : Int)), (25, ni (c.refs.length : Nat))] [.bx 43 (dQ c), .dead, .rw 3 1 (zs (flatR c.refs))] := by simp only [X]; rw [ht]
   rw [hX]
   refine .to mo_ [] [3, 49, 50] [5] 6 [na (t := decide ((c.refs.length : Int) < ((rfs c.refs).length : Int))) (decide_eq_false (by rw [rfs_len]; omega)), cl (e_whole c.fit.fm), .newr false true _ _ _ _ _ (e_wints hr (by omega)) (byL_k _), .arr, .newr false true _ _ _ _ _ (e_wints h.f (Nat.le_of_ble_eq_true rfl)) (byL_k _), cl cc, cl (e_numbersC c.fit.fm)] (td' := lp fEn 1) (σ' := Y 0) ?_ (by kernel_rfl)
   refine .to mo_ [.mv 5 8] [3, 49, 50] [5] 6 [yt, cl (e_renc q0.fq), .app (byL (P 0)) (byL (encQ c.fit.r0)) (byL (P 1)) 100000 (by rw [byL_app, p1]) (by rw [byL_len]; omega) (by rw [byL_len]; omega)] (td' := lp fEn 1) (σ' := Y 1) ?_ (by kernel_rfl)
   refine .to mo_ [.mv 5 8] [3, 49, 50] [5] 6 [yt, cl (e_renc q1.fq), .app (byL (P 1)) (byL (encQ c.fit.r1)) (byL (P 2)) 100000 (by rw [byL_app, p2]) (by rw [byL_len]; omega) (by rw [byL_len]; omega)] (td' := lp fEn 1) (σ' := Y 2) ?_ (by kernel_rfl)
   refine .to mo_ [.mv 5 8] [3, 49, 50] [5] 6 [yt, cl (e_renc q2.fq), .app (byL (P 2)) (byL (encQ c.fit.r2)) (byL (P 3)) 100000 (by rw [byL_app, p3]) (by rw [byL_len]; omega) (by rw [byL_len]; omega)] (td' := lp fEn 1) (σ' := Y 3) ?_ (by kernel_rfl)
   refine .to mo_ [.mv 5 8] [3, 49, 50] [5] 6 [yt, cl (e_renc q3.fq), .app (byL (P 3)) (byL (encQ c.fit.r3)) (byL (P 4)) 100000 (by rw [byL_app, p4]) (by rw [byL_len]; omega) (by rw [byL_len]; omega)] (td' := lp fEn 1) (σ' := Y 4) ?_ (by kernel_rfl)
   refine .to mo_ [.mv 5 8] [3, 49, 50] [5] 6 [yt, cl (e_renc q4.fq), .app (byL (P 4)) (byL (encQ c.fit.r4)) (byL (P 5)) 100000 (by rw [byL_app, p5]) (by rw [byL_len]; omega) (by rw [byL_len]; omega)] (td' := lp fEn 1) (σ' := Y 5) ?_ (by kernel_rfl)
   refine .to mo_ [.mv 5 8] [3, 49, 50] [5] 6 [yt, cl (e_renc q5.fq), .app (byL (P 5)) (byL (encQ c.fit.r5)) (byL (P 6)) 100000 (by rw [byL_app, p6]) (by rw [byL_len]; omega) (by rw [byL_len]; omega)] (td' := lp fEn 1) (σ' := Y 6) ?_ (by kernel_rfl)
   rw [← pe]
   exact fi [nf] (by kernel_rfl) (by kernel_rfl)
theorem e_cenc6 (h : Sq c) : Pure PP 10 [.ag (dQ c)] (.o 5 1 (byL (encC c))) := by
 have hn := h.n
 have hr := h.r64
 have hrl := flatR_len c.refs
 have h3 := enc3_len h
 have e3 := encC_3 c
 have l1 := wlW (hdQ c) h.h (Nat.le_of_ble_eq_true rfl)
 have l2 := wlW (flatR c.refs) h.r64 (by omega)
 have l3 := wlW c.fit.wh h.f (Nat.le_of_ble_eq_true rfl)
 have q0 := h.q c.fit.r0 (by simp [FQ.qs]); have q1 := h.q c.fit.r1 (by simp [FQ.qs]); have q2 := h.q c.fit.r2 (by simp [FQ.qs]); have q3 := h.q c.fit.r3 (by simp [FQ.qs]); have q4 := h.q c.fit.r4 (by simp [FQ.qs]); have q5 := h.q c.fit.r5 (by simp [FQ.qs])
 have n0 := q0.len; have n1 := q1.len; have n2 := q2.len; have n3 := q3.len; have n4 := q4.len; have n5 := q5.len
 let X : Nat → St := fun i => at_ fE6 [(1, .lp 0 0), (3, .ow 2), (4, .ow 3), (5, ni i)] [.bx 43 (dQ c), .dead, .rw 5 1 (byL (W.encI (hdQ c))), .rw 3 1 (zs (flatR (c.refs.take i)))]
 let P : Nat → List UInt8 := fun i => enc3 c ++ (c.fit.qs.take i).flatMap encQ
 let Y : Nat → St := fun i => at_ fE6 [(3, .ow 8), (6, .sl ((nu c.fit.fm).map cN)), (7, ni i)] [.dead, .dead, .dead, .dead, .dead, .dead, .dead, .dead, .rw 5 1 (byL (P i))]
 have p1 : P 1 = P 0 ++ encQ c.fit.r0 := by simp [P, FQ.qs]
 have p2 : P 2 = P 1 ++ encQ c.fit.r1 := by simp [P, FQ.qs]
 have p3 : P 3 = P 2 ++ encQ c.fit.r2 := by simp [P, FQ.qs]
 have p4 : P 4 = P 3 ++ encQ c.fit.r3 := by simp [P, FQ.qs]
 have p5 : P 5 = P 4 ++ encQ c.fit.r4 := by simp [P, FQ.qs]
 have p6 : P 6 = P 5 ++ encQ c.fit.r5 := by simp [P, FQ.qs]
 have pe : P 6 = encC c := by rw [e3]; rfl
 have pl0 : (P 0).length = (enc3 c).length := by simp [P]
 have pl1 : (P 1).length = (P 0).length + (encQ c.fit.r0).length := by rw [p1, List.length_append]
 have pl2 : (P 2).length = (P 1).length + (encQ c.fit.r1).length := by rw [p2, List.length_append]
 have pl3 : (P 3).length = (P 2).length + (encQ c.fit.r2).length := by rw [p3, List.length_append]
 have pl4 : (P 4).length = (P 3).length + (encQ c.fit.r3).length := by rw [p4, List.length_append]
 have pl5 : (P 5).length = (P 4).length + (encQ c.fit.r4).length := by rw [p5, List.length_append]
 have pl6 : (P 6).length = (P 5).length + (encQ c.fit.r5).length := by rw [p6, List.length_append]
 have s0 : ((nu c.fit.fm).map cN)[0]? = some (dR c.fit.r0) := rfl
 have s1 : ((nu c.fit.fm).map cN)[1]? = some (dR c.fit.r1) := rfl
 have s2 : ((nu c.fit.fm).map cN)[2]? = some (dR c.fit.r2) := rfl
 have s3 : ((nu c.fit.fm).map cN)[3]? = some (dR c.fit.r3) := rfl
 have s4 : ((nu c.fit.fm).map cN)[4]? = some (dR c.fit.r4) := rfl
 have s5 : ((nu c.fit.fm).map cN)[5]? = some (dR c.fit.r5) := rfl
 let m2 : List UInt8 := W.encI (hdQ c) ++ W.encI (flatR c.refs)
 have em : m2 ++ W.encI c.fit.wh = P 0 := by simp [P, m2, enc3, List.append_assoc]
 have ml : m2.length = (W.encI (hdQ c)).length + (W.encI (flatR c.refs)).length := List.length_append
 refine pf (by kernel_rfl) (.to mo_ [.ow 4 (.rw 3 1 [])] [1, 3, 4, 5] [0, 2, 3] 4 [cl (e_rints h.h (Nat.le_of_ble_eq_true rfl))] (td' := lp fE6 0) (σ' := X 0) ?_ (by kernel_rfl))
 refine Gd.loop X (fun i => i ≤ c.refs.length) (fun i => c.refs.length - i) ?_ 0 (Nat.zero_le _)
 intro i hi ih
 by_cases hlt : i < c.refs.length
 · obtain ⟨p, hp, _⟩ := get_of hlt
   have hnx := flatR_next hp
   have hl2 := flatR_len (c.refs.take (i + 1))
   rw [List.length_take] at hl2
   exact .to mo_ [.mv 3 5] [1, 3, 4, 5] [0, 2, 3] 4 [ye (t := decide ((i : Int) < ((rfs c.refs).length : Int))) (decide_eq_true (by rw [rfs_len]; omega)), .sel _ _ _ (rfs_at hp), .sel _ _ _ (rfs_at hp), .app (zs (flatR (c.refs.take i))) (zs [p.1, p.2]) (zs (flatR (c.refs.take (i + 1)))) 1000 (by rw [hnx, zs_app]) (Nat.zero_lt_succ _) (by rw [zs_len]; omega), inc 26 i (by omega)] (ih (i + 1) hlt (by omega)) (by kernel_rfl)
 · have hi2 : i = c.refs.length := by omega
   subst hi2
   have ht : c.refs.take c.refs.length = c.refs := List.take_length
   have hX : X c.refs.length = at_ fE6 [(1, .lp 0 0), (3, .ow 2), (4, .ow 3), (5, ni (c.refs.length : Nat))] [.bx 43 (dQ c), .dead, .rw 5 1 (byL (W.encI (hdQ c))), .rw 3 1 (zs (flatR c.refs))] := by simp only [X]; rw [ht]
   rw [hX]
   refine .to mo_ [] [3, 6, 7] [8] 9 [na (t := decide ((c.refs.length : Int) < ((rfs c.refs).length : Int))) (decide_eq_false (by rw [rfs_len]; omega)), cl (e_rints hr (by omega)), .app (byL (W.encI (hdQ c))) (byL (W.encI (flatR c.refs))) (byL m2) 100000 (byL_app _ _) (by rw [byL_len]; omega) (by rw [byL_len]; omega), cl (e_rints h.f (Nat.le_of_ble_eq_true rfl)), .app (byL m2) (byL (W.encI c.fit.wh)) (byL (P 0)) 100000 (by rw [byL_app, em]) (by rw [byL_len]; omega) (by rw [byL_len]; omega), cl (e_numbersC6 c.fit.fm)] (td' := lp fE6 1) (σ' := Y 0) ?_ (by kernel_rfl)
   refine .to mo_ [.mv 8 10] [3, 6, 7] [8] 9 [yt, .sel _ _ _ s0, cl (e_renc4 q0.fq), .app (byL (P 0)) (byL (encQ c.fit.r0)) (byL (P 1)) 100000 (by rw [byL_app, p1]) (by rw [byL_len]; omega) (by rw [byL_len]; omega)] (td' := lp fE6 1) (σ' := Y 1) ?_ (by kernel_rfl)
   refine .to mo_ [.mv 8 10] [3, 6, 7] [8] 9 [yt, .sel _ _ _ s1, cl (e_renc4 q1.fq), .app (byL (P 1)) (byL (encQ c.fit.r1)) (byL (P 2)) 100000 (by rw [byL_app, p2]) (by rw [byL_len]; omega) (by rw [byL_len]; omega)] (td' := lp fE6 1) (σ' := Y 2) ?_ (by kernel_rfl)
   refine .to mo_ [.mv 8 10] [3, 6, 7] [8] 9 [yt, .sel _ _ _ s2, cl (e_renc4 q2.fq), .app (byL (P 2)) (byL (encQ c.fit.r2)) (byL (P 3)) 100000 (by rw [byL_app, p3]) (by rw [byL_len]; omega) (by rw [byL_len]; omega)] (td' := lp fE6 1) (σ' := Y 3) ?_ (by kernel_rfl)
   refine .to mo_ [.mv 8 10] [3, 6, 7] [8] 9 [yt, .sel _ _ _ s3, cl (e_renc4 q3.fq), .app (byL (P 3)) (byL (encQ c.fit.r3)) (byL (P 4)) 100000 (by rw [byL_app, p4]) (by rw [byL_len]; omega) (by rw [byL_len]; omega)] (td' := lp fE6 1) (σ' := Y 4) ?_ (by kernel_rfl)
   refine .to mo_ [.mv 8 10] [3, 6, 7] [8] 9 [yt, .sel _ _ _ s4, cl (e_renc4 q4.fq), .app (byL (P 4)) (byL (encQ c.fit.r4)) (byL (P 5)) 100000 (by rw [byL_app, p5]) (by rw [byL_len]; omega) (by rw [byL_len]; omega)] (td' := lp fE6 1) (σ' := Y 5) ?_ (by kernel_rfl)
   refine .to mo_ [.mv 8 10] [3, 6, 7] [8] 9 [yt, .sel _ _ _ s5, cl (e_renc4 q5.fq), .app (byL (P 5)) (byL (encQ c.fit.r5)) (byL (P 6)) 100000 (by rw [byL_app, p6]) (by rw [byL_len]; omega) (by rw [byL_len]; omega)] (td' := lp fE6 1) (σ' := Y 6) ?_ (by kernel_rfl)
   rw [← pe]
   exact fi [nf] (by kernel_rfl) (by kernel_rfl)
end
end Go.Proofs.YtjegnmlchioofaaGreatDoor.E.Ca
namespace Go.Proofs.YtjegnmlchioofaaGreatDoor.W
open Go.RowKit
section
variable {α : Type} {e : α → List UInt8} {d : List UInt8 → α × Nat × Int} {V : α → Prop}
/-- So many elements. -/
def dN (d : List UInt8 → α × Nat × Int) (k : Nat) (b : List UInt8) : List α × Nat × Int := seqD d b k 0 []
/-- A list of so many numbers; of an even number. -/
def dL (k : Nat) : List UInt8 → List Int × Nat × Int := dM decI fun l => if l.length = k then some l else none
def dEv : List UInt8 → List Int × Nat × Int := dM decI fun l => if l.length % 2 = 0 then some l else none
theorem dL_e (k : Nat) {l : List UInt8} {A : List Int} {a : Nat} {er : Int} (h : decI l = (A, a, er)) (he : er ≠ 0) : dL k l = ([], 0, er) := by unfold dL; rw [dM_1 (by rw [h]; exact he), h]; rfl
theorem dL_n (k : Nat) {l : List UInt8} {A : List Int} {a : Nat} (h : decI l = (A, a, 0)) (hk : A.length ≠ k) : dL k l = ([], 0, 2) := by unfold dL; rw [dM_2 (by rw [h]) (by rw [h]; exact if_neg hk)]; rfl
theorem dL_0 (k : Nat) {l : List UInt8} {A : List Int} {a : Nat} (h : decI l = (A, a, 0)) (hk : A.length = k) : dL k l = (A, a, 0) := by unfold dL; rw [dM_0 (y := A) (by rw [h]) (by rw [h]; exact if_pos hk), h]
theorem dEv_e {l : List UInt8} {A : List Int} {a : Nat} {er : Int} (h : decI l = (A, a, er)) (he : er ≠ 0) : dEv l = ([], 0, er) := by unfold dEv; rw [dM_1 (by rw [h]; exact he), h]; rfl
theorem dEv_n {l : List UInt8} {A : List Int} {a : Nat} (h : decI l = (A, a, 0)) (hk : A.length % 2 ≠ 0) : dEv l = ([], 0, 2) := by unfold dEv; rw [dM_2 (by rw [h]) (by rw [h]; exact if_neg hk)]; rfl
theorem dEv_0 {l : List UInt8} {A : List Int} {a : Nat} (h : decI l = (A, a, 0)) (hk : A.length % 2 = 0) : dEv l = (A, a, 0) := by unfold dEv; rw [dM_0 (y := A) (by rw [h]) (by rw [h]; exact if_pos hk), h]
end
end Go.Proofs.YtjegnmlchioofaaGreatDoor.W
namespace Go.Proofs.YtjegnmlchioofaaGreatDoor.E.Ca
open Go.RowKit
set_option linter.unusedVariables false
set_option linter.unusedSimpArgs false
/-- Numbers in pairs. -/
def pairs : List Int → List (Int × Int)
 | a :: b :: r => (a, b) :: pairs r
 | _ => []
theorem pairs_flat : ∀ l : List (Int × Int), pairs (flatR l) = l
 | [] => rfl
 | p :: r => by
  have ih := pairs_flat r
  show pairs (p.1 :: p.2 :: flatR r) = _
  rw [pairs, ih]
theorem flat_pairs : ∀ l : List Int, l.length % 2 = 0 → flatR (pairs l) = l
 | [], _ => rfl
 | [a], h => by simp at h
 | a :: b :: r, h => by
  have ih := flat_pairs r (by simp at h; omega)
  show flatR ((a, b) :: pairs r) = _
  unfold flatR at ih ⊢
  rw [List.flatMap_cons, ih]
  rfl
instance : Inhabited CQ := ⟨⟨0, 0, 0, 0, [], zQ, 0⟩⟩
def mkC (x : List Int × List Int × List Int × List Rat) : CQ := ⟨x.1.getD 0 0, x.1.getD 1 0, x.1.getD 2 0, x.1.getD 3 0, pairs x.2.1, ⟨x.2.2.1.getD 0 0, x.2.2.1.getD 1 0, x.2.2.1.getD 2 0, x.2.2.1.getD 3 0, x.2.2.1.getD 4 0, x.2.2.2.getD 0 0, x.2.2.2.getD 1 0, x.2.2.2.getD 2 0, x.2.2.2.getD 3 0, x.2.2.2.getD 4 0, x.2.2.2.getD 5 0⟩, x.1.getD 4 0⟩
noncomputable def dC4 : List UInt8 → (List Int × List Int × List Int × List Rat) × Nat × Int := W.dP (W.dL 5) (W.dP W.dEv (W.dP (W.dL 5) (W.dN decQ 6)))
noncomputable def decC : List UInt8 → CQ × Nat × Int := W.dM dC4 fun x => some (mkC x)
def tuC (r : CQ × Nat × Int) : V := .tu [.ag (dQ r.1), ni (r.2.1 : Int), ni r.2.2]
def zrC : List V := [ni 0, ni 0, ni 0, ni 0, .sl [], ni 0, ni 0, ni 0, ni 0, ni 0, bo false, .sl [], bo false, .sl [], bo false, .sl [], bo false, .sl [], bo false, .sl [], bo false, .sl [], bo false, .sl [], bo false, .sl [], bo false, .sl [], bo false, .sl [], bo false, .sl [], bo false, .sl [], ni 0]
theorem zrC_eq : dQ default = zrC := by
 show dC (CQ.cm ⟨0, 0, 0, 0, [], zQ, 0⟩) = _
 unfold CQ.cm
 simp only [zQ_fm]
 rfl
theorem tuC_0 (e : Int) : tuC (default, 0, e) = .tu [.ag zrC, ni 0, ni e] := by
 show V.tu [.ag (dQ default), _, _] = _
 rw [zrC_eq]; rfl
section
variable {l : List UInt8} {A E F : List Int} {Q : List Rat} {a b c d : Nat} {er : Int}
theorem decC_e {x : List Int × List Int × List Int × List Rat} {n : Nat} (h : dC4 l = (x, n, er)) (he : er ≠ 0) : decC l = (default, 0, er) := by unfold decC; rw [W.dM_1 (by rw [h]; exact he), h]
theorem dP_1' {α β : Type} [Inhabited α] [Inhabited β] {d1 : List UInt8 → α × Nat × Int} {d2 : List UInt8 → β × Nat × Int} {x : α} {p : Nat} (h : d1 l = (x, p, er)) (he : er ≠ 0) : W.dP d1 d2 l = (default, 0, er) := by rw [W.dP_1 (by rw [h]; exact he), h]
theorem decC_1 (h : W.dL 5 l = (A, a, er)) (he : er ≠ 0) : decC l = (default, 0, er) := decC_e (dP_1' h he) he
theorem dP_2' {α β : Type} [Inhabited α] [Inhabited β] {d1 : List UInt8 → α × Nat × Int} {d2 : List UInt8 → β × Nat × Int} {x : α} {y : β} {p q : Nat} (h : d1 l = (x, p, 0)) (h2 : d2 (l.drop p) = (y, q, er)) (he : er ≠ 0) : W.dP d1 d2 l = (default, 0, er) := by
 rw [W.dP_2 (by rw [h]) (by rw [h]; simp only; rw [h2]; exact he), h]
 simp only
 rw [h2]
theorem dP_0' {α β : Type} [Inhabited α] [Inhabited β] {d1 : List UInt8 → α × Nat × Int} {d2 : List UInt8 → β × Nat × Int} {x : α} {y : β} {p q : Nat} (h : d1 l = (x, p, 0)) (h2 : d2 (l.drop p) = (y, q, 0)) : W.dP d1 d2 l = ((x, y), p + q, 0) := by
 rw [W.dP_0 (by rw [h]) (by rw [h]; simp only; rw [h2]), h]
 simp only
 rw [h2]
theorem decC_2 (h : W.dL 5 l = (A, a, 0)) (h2 : W.dEv (l.drop a) = (E, b, er)) (he : er ≠ 0) : decC l = (default, 0, er) := decC_e (dP_2' h (dP_1' h2 he) he) he
theorem decC_3 (h : W.dL 5 l = (A, a, 0)) (h2 : W.dEv (l.drop a) = (E, b, 0)) (h3 : W.dL 5 ((l.drop a).drop b) = (F, c, er)) (he : er ≠ 0) : decC l = (default, 0, er) := decC_e (dP_2' h (dP_2' h2 (dP_1' h3 he) he) he) he
theorem decC_4 (h : W.dL 5 l = (A, a, 0)) (h2 : W.dEv (l.drop a) = (E, b, 0)) (h3 : W.dL 5 ((l.drop a).drop b) = (F, c, 0)) (h4 : W.dN decQ 6 (((l.drop a).drop b).drop c) = (Q, d, er)) (he : er ≠ 0) : decC l = (default, 0, er) := decC_e (dP_2' h (dP_2' h2 (dP_2' h3 h4 he) he) he) he
theorem decC_0 (h : W.dL 5 l = (A, a, 0)) (h2 : W.dEv (l.drop a) = (E, b, 0)) (h3 : W.dL 5 ((l.drop a).drop b) = (F, c, 0)) (h4 : W.dN decQ 6 (((l.drop a).drop b).drop c) = (Q, d, 0)) : decC l = (mkC (A, E, F, Q), a + (b + (c + d)), 0) := by
 have h5 : dC4 l = ((A, E, F, Q), a + (b + (c + d)), 0) := dP_0' h (dP_0' h2 (dP_0' h3 h4))
 unfold decC
 rw [W.dM_0 (y := mkC (A, E, F, Q)) (by rw [h5]) (by rw [h5]), h5]
end
end Go.Proofs.YtjegnmlchioofaaGreatDoor.E.Ca
namespace Go.Proofs.YtjegnmlchioofaaGreatDoor.E
open Go.RowKit
set_option linter.unusedVariables false
section
variable {P : Program}
/-- Code without loops, from a state to the way in which it is left. -/
noncomputable def runC (P : Program) : Nat → Code → St → List (Fa P) → Option (Exit × St × List (Fa P) × Ks)
 | 0, _, _, _ => none
 | n + 1, c, σ, sc => match c with
   | .skip => some (.normal, σ, sc, [])
   | .label _ => some (.normal, σ, sc, [])
   | .ret => some (.ret, σ, sc, [])
   | .exit id => some (.exit id, σ, sc, [])
   | .region i ops dr => match regR P ops ops.toList [] σ sc with
     | some (σ', fps, sc', k1) => match nodef ops && (!dr || (backB ops && (depOk ops && (dstOk ops && confOk ops fps 0)))) with
       | true => some (.normal, σ', sc', k1)
       | false => none
     | none => none
   | .seq a b => match runC P n a σ sc with
     | some (.normal, σ1, sc1, k1) => match runC P n b σ1 sc1 with
       | some (e, σ2, sc2, k2) => some (e, σ2, sc2, k1 ++ k2)
       | none => none
     | r => r
   | .cond c a b => match σ.ev c, sc with
     | .k (.bool t), .dec t0 b0 _ :: sc => match runC P n (match b0 with | true => a | false => b) σ sc with
       | some (e, σ, sc, k) => some (e, σ, sc, ([.k (.bool t)], [.k (.bool t0)]) :: k)
       | none => none
     | _, _ => none
   | .block id c => match runC P n c σ sc with
     | some (.exit i, σ, sc, k) => match Nat.beq i id with
       | true => some (.normal, σ, sc, k)
       | false => some (.exit i, σ, sc, k)
     | r => r
   | _ => none
variable {B : Nat → Prop} {M : Nat → Prop} {w0 : World} {Fx : Fence} {nf : Nat}
/-- How code is left. -/
def PostC (B : Nat → Prop) (M : Nat → Prop) (w0 : World) (E : World → (Nat → Prop) → (Nat → Option Value) → Prop) (dfs : List Deferred) (e : Exit) (σ : St) : Exit → Act → World → Prop := fun e' a w => e' = e ∧ ∃ m, SOk B M w0 σ a m w ∧ E w (Av M σ.ho m) m ∧ a.defers = dfs
theorem runC_ok (hm : P.follows .mixedOrders = true) (hFx : WideF Fx) (E : World → (Nat → Prop) → (Nat → Option Value) → Prop) (hE : ∀ w A m w' A' m', E w A m → Mo w A m w' A' m' → E w' A' m') {dfs : List Deferred} : ∀ (n : Nat) (c : Code) (σ σ' : St) (sc sc' : List (Fa P)) (ks : Ks) (e : Exit) (a : Act) (m : Nat → Option Value) (w : World),
  runC P n c σ sc = some (e, σ', sc', ks) → (∀ p ∈ ks, p.1 = p.2) → SOk B M w0 σ a m w → E w (Av M σ.ho m) m → a.defers = dfs → c.wpIn Fx nf P (PostC B M w0 E dfs e σ') a w := by
 intro n
 induction n with
 | zero => intro c σ σ' sc sc' ks e a m w h; cases h
 | succ n ih =>
  intro c σ σ' sc sc' ks e a m w h hk H hE0 hds
  cases c with
  | skip =>
   simp only [runC, Option.some.injEq, Prod.mk.injEq] at h
   obtain ⟨rfl, rfl, rfl, rfl⟩ := h
   exact wpIn_skip ⟨rfl, m, H, hE0, hds⟩
  | label l =>
   simp only [runC, Option.some.injEq, Prod.mk.injEq] at h
   obtain ⟨rfl, rfl, rfl, rfl⟩ := h
   exact wpIn_label ⟨rfl, m, H, hE0, hds⟩
  | ret =>
   simp only [runC, Option.some.injEq, Prod.mk.injEq] at h
   obtain ⟨rfl, rfl, rfl, rfl⟩ := h
   exact wpIn_ret ⟨rfl, m, H, hE0, hds⟩
  | exit id =>
   simp only [runC, Option.some.injEq, Prod.mk.injEq] at h
   obtain ⟨rfl, rfl, rfl, rfl⟩ := h
   exact wpIn_exit ⟨rfl, m, H, hE0, hds⟩
  | region i ops dr =>
   simp only [runC] at h
   split at h
   · rename_i σ1 fps sc1 k1 hr
     split at h
     · rename_i hc
       simp only [Option.some.injEq, Prod.mk.injEq] at h
       obtain ⟨rfl, rfl, rfl, rfl⟩ := h
       exact region_ok hm hFx hr hk hc E hE H hE0 hds
     · cases h
   · cases h
  | seq x y =>
   simp only [runC] at h
   split at h
   · rename_i σ1 sc1 k1 h1
     split at h
     · rename_i e2 σ2 sc2 k2 h2
       simp only [Option.some.injEq, Prod.mk.injEq] at h
       obtain ⟨rfl, rfl, rfl, rfl⟩ := h
       refine wpIn_seq (wpIn_mono (ih _ _ _ _ _ _ _ _ _ _ h1 (fun p hp => hk p (List.mem_append.2 (.inl hp))) H hE0 hds) ?_)
       rintro e' a' w' ⟨rfl, m', H', hE1, hd1⟩
       exact ih _ _ _ _ _ _ _ _ _ _ h2 (fun p hp => hk p (List.mem_append.2 (.inr hp))) H' hE1 hd1
     · cases h
   · rename_i hnn
     refine wpIn_seq (wpIn_mono (ih _ _ _ _ _ _ _ _ _ _ h hk H hE0 hds) ?_)
     rintro e' a' w' ⟨rfl, m', H', hE1, hd1⟩
     cases e' with
     | normal => exact absurd h (hnn _ _ _)
     | _ => exact ⟨rfl, m', H', hE1, hd1⟩
  | cond c x y =>
   simp only [runC] at h
   split at h
   · rename_i t t0 b0 hb sc1 hc
     split at h
     · rename_i e2 σ2 sc2 k2 h2
       simp only [Option.some.injEq, Prod.mk.injEq] at h
       obtain ⟨rfl, rfl, rfl, rfl⟩ := h
       have hkey := hk _ (List.mem_cons_self ..)
       simp only [List.cons.injEq, V.k.injEq, Value.bool.injEq, and_true] at hkey
       subst hkey
       have hv := ev_rep (a := a) (x := c) (σ := σ) (w := w) (A := Av M σ.ho m) (m := m) H.K.gl fun t0 _ => H.slot t0
       rw [hc] at hv
       refine wpIn_cond (Rep.k_inv hv) ?_
       have h3 := ih _ _ _ _ _ _ _ _ _ _ h2 (fun p hp => hk p (List.mem_cons_of_mem _ hp)) H hE0 hds
       rw [hb]
       cases b0 <;> exact h3
     · cases h
   · cases h
  | block id c =>
   simp only [runC] at h
   split at h
   · rename_i i σ1 sc1 k1 h1
     split at h
     · rename_i hi
       simp only [Option.some.injEq, Prod.mk.injEq] at h
       obtain ⟨rfl, rfl, rfl, rfl⟩ := h
       have := Nat.eq_of_beq_eq_true hi
       subst this
       refine wpIn_block (wpIn_mono (ih _ _ _ _ _ _ _ _ _ _ h1 hk H hE0 hds) ?_)
       rintro e' a' w' ⟨rfl, m', H', hE1, hd1⟩
       simp only [Exit.inBlock, if_true]
       exact ⟨rfl, m', H', hE1, hd1⟩
     · rename_i hi
       simp only [Option.some.injEq, Prod.mk.injEq] at h
       obtain ⟨rfl, rfl, rfl, rfl⟩ := h
       refine wpIn_block (wpIn_mono (ih _ _ _ _ _ _ _ _ _ _ h1 hk H hE0 hds) ?_)
       rintro e' a' w' ⟨rfl, m', H', hE1, hd1⟩
       have hne : i ≠ id := fun e => by rw [e] at hi; rw [Nat.beq_refl] at hi; cases hi
       simp only [Exit.inBlock, if_neg hne]
       exact ⟨rfl, m', H', hE1, hd1⟩
   · rename_i hnn
     refine wpIn_block (wpIn_mono (ih _ _ _ _ _ _ _ _ _ _ h hk H hE0 hds) ?_)
     rintro e' a' w' ⟨rfl, m', H', hE1, hd1⟩
     cases e' with
     | exit i => exact absurd h (hnn _ _ _ _)
     | _ => exact ⟨rfl, m', H', hE1, hd1⟩
  | _ => simp [runC] at h
end
end Go.Proofs.YtjegnmlchioofaaGreatDoor.E
