/-
 ARRAYS at a symbolic index: facts for the engine.
-/
import Derived.Test.YtnpdpjfdgialeaaGreatDoorFaN
import Derived.Test.YtnpdpjfdgialeaaGreatDoorFaJ
import Derived.Test.YtnpdpjfdgialeaaGreatDoorEzH
import Derived.Test.YtnpdpjfdgialeaaGreatDoorFaI
import Derived.Laws.BitsAllLaws
import Derived.Test.YtnpdpjfdgialeaaGreatDoorRef3C
import Derived.Test.YtnpdpjfdgialeaaGreatDoorEwB
namespace Go.Proofs.YtnpdpjfdgialeaaGreatDoor.E.Pc
open Go.RowKit
set_option linter.unusedVariables false
set_option linter.unusedSimpArgs false
section
variable {l : List Int} {p q : Pr} {how by_ : Int} {n i : Nat} {a : RN}
/-- The piece made of numbers is one of them. -/
theorem p12P_pr (l : List Int) (P : List (Int × Int)) (hs : ∀ c ∈ P, (-12 ≤ c.1 ∧ c.1 ≤ 12) ∧ (-12 ≤ c.2 ∧ c.2 ≤ 12)) (hl : 3 ≤ P.length ∧ P.length ≤ 5) (b1 : Bq 8 (Ct.p12P l P).tol) (b2 : Bq 8 (Ct.p12P l P).light) (b3 : Bq 20 (Ct.p12P l P).heavy) (b4 : Bq 8 (Ct.p12P l P).str) (b5 : Bq 8 (Ct.p12P l P).rough) : (prOf (Ct.p12P l P)).Ok ∧ (prOf (Ct.p12P l P)).Le 5 ∧ rngB (Ct.p12P l P).id (Ct.p12P l P).home (Ct.p12P l P).rim (Ct.p12P l P).marks = true ∧ (Ct.p12P l P).worn.length = (Ct.p12P l P).rim.length ∧ (Ct.p12P l P).marks.length = (Ct.p12P l P).rim.length := by
 have w1 : (Ct.p12P l P).worn.length = P.length := by
  show (Ct.pwn l P.length P.length).length = P.length
  unfold Ct.pwn
  rw [List.length_map, List.length_range]
 have m1 : (Ct.p12P l P).marks.length = P.length := by
  show (Ct.pmk l P.length P.length).length = P.length
  unfold Ct.pmk
  rw [List.length_map, List.length_range]
 have a8 := atz_in l 8 39
 have a9 := atz_in l 9 4
 have mm : ∀ x ∈ (Ct.p12P l P).marks, 0 ≤ x ∧ x ≤ 4 := fun x hx => by
  have hx : x ∈ Ct.pmk l P.length P.length := hx
  unfold Ct.pmk at hx
  obtain ⟨i, _, rfl⟩ := List.mem_map.1 hx
  have h1 := atz_in l (20 + i) 4
  split
  · rw [Int.tdiv_eq_ediv_of_nonneg h1.1]; omega
  · omega
 refine ⟨⟨⟨by show _ ≤ atz l 8 39; omega, by show atz l 8 39 ≤ _; omega⟩, ⟨by show _ ≤ atz l 9 4; omega, by show atz l 9 4 ≤ _; omega⟩, fun x hx => ?_, fun x hx => ?_, by show P.length ≤ _; omega, by show (Ct.p12P l P).worn.length ≤ _; omega, by show (Ct.p12P l P).marks.length ≤ _; omega, bn_of (b1.mono (by omega)), bn_of (b2.mono (by omega)), bn_of (b3.mono (by omega)), bn_of (b4.mono (by omega)), bn_of (b5.mono (by omega))⟩, ⟨hl.2, by show (Ct.p12P l P).worn.length ≤ _; omega, by show (Ct.p12P l P).marks.length ≤ _; omega⟩, ?_, w1, m1⟩
 · have := hs x hx
   exact ⟨⟨by omega, by omega⟩, ⟨by omega, by omega⟩⟩
 · have := mm x hx
   exact ⟨by omega, by omega⟩
 · show rngB (atz l 8 39) (atz l 9 4) P (Ct.p12P l P).marks = true
   unfold rngB inW
   rw [Bool.and_eq_true, List.all_eq_true, Bool.and_eq_true, List.all_eq_true]
   refine ⟨fun x hx => ?_, fun x hx => ?_, ?_⟩
   · have := hs x hx
     unfold ptW inW
     simp only [Bool.and_eq_true, decide_eq_true_eq]
     omega
   · have := mm x hx
     simp only [Bool.and_eq_true, decide_eq_true_eq]
     omega
   · simp only [Bool.and_eq_true, decide_eq_true_eq]
     omega
theorem p12_pr (l : List Int) : (prOf (Ct.p12 l)).Ok ∧ (prOf (Ct.p12 l)).Le 5 ∧ rngB (Ct.p12 l).id (Ct.p12 l).home (Ct.p12 l).rim (Ct.p12 l).marks = true ∧ (Ct.p12 l).worn.length = (Ct.p12 l).rim.length ∧ (Ct.p12 l).marks.length = (Ct.p12 l).rim.length := by
 have hb := p12_bits l
 have hl := p12_len l
 have hs := p12_sm l
 rw [Ct.p12_rim] at hl hs
 unfold Ct.p12 at *
 obtain ⟨b1, b2, b3, b4, b5⟩ := hb
 exact p12P_pr l _ hs hl b1 b2 b3 b4 b5
end
end Go.Proofs.YtnpdpjfdgialeaaGreatDoor.E.Pc
namespace Go.Proofs.YtnpdpjfdgialeaaGreatDoor.E.Pc
open Go.RowKit
set_option linter.unusedVariables false
set_option linter.unusedSimpArgs false
section
variable {p : Ct.Pi} {l : List Int} {t : List UInt8} {r : Rat} {n k i : Nat}
theorem digL {N : Nat} (h : I.Can (digs N) → I.Bd k (I.val (digs N))) (hk : 2 ^ k ≤ 1000000000 ^ n) : (digs N).length ≤ n := by
 refine Nat.le_of_not_lt fun hc => ?_
 have h1 := h (digs_ok N).1
 have hne : digs N ≠ [] := fun e => by rw [e] at hc; simp at hc
 have h2 := (digs_ok N).1.pos hne
 have h3 : I.pw n ≤ I.pw ((digs N).length - 1) := I.pw_mono (by omega)
 have h4 : I.pw n = ((1000000000 ^ n : Nat) : Int) := by
  unfold I.pw
  rw [Int.natCast_pow]
  rfl
 unfold I.Bd at h1
 generalize I.pw ((digs N).length - 1) = a at *
 generalize I.pw n = b at *
 generalize I.val (digs N) = v at *
 generalize 2 ^ k = s at *
 generalize 1000000000 ^ n = u at *
 omega
theorem digR (h : Bn k (ofR r)) (hk : 2 ^ k ≤ 1000000000 ^ n) : (digs r.num.natAbs).length ≤ n ∧ (digs (dq r).natAbs).length ≤ n := ⟨digL h.1 hk, digL h.2 hk⟩
theorem p35 : 2 ^ 1000 ≤ 1000000000 ^ 35 := by decide +kernel
theorem p1 : 2 ^ 20 ≤ 1000000000 ^ 1 := by decide +kernel
theorem lenI2 (l : List Int) : (W.encI l).length ≤ 9 + 9 * l.length := W.encI_le l
theorem encQ_up (h : (digs r.num.natAbs).length ≤ n ∧ (digs (dq r).natAbs).length ≤ n) : (encQ r).length ≤ 36 + 18 * n ∧ 2 ≤ (encQ r).length := by
 have h1 := encZ_len r.num
 have h2 := encZ_len (dq r)
 unfold encQ
 rw [List.length_append]
 omega
/-- How long a code is. -/
theorem encP_up (hq : ∀ r ∈ numP p, (digs r.num.natAbs).length ≤ n ∧ (digs (dq r).natAbs).length ≤ n) (h1 : p.rim.length ≤ k) (h2 : p.worn.length ≤ k) (h3 : p.marks.length ≤ k) : (encP p).length ≤ 234 + 36 * k + 90 * n ∧ 10 ≤ (encP p).length := by
 have e : (encP p).length = (W.encI [p.id, p.home]).length + ((W.encI (crn p.rim)).length + ((W.encI (wnI p.worn)).length + ((W.encI p.marks).length + ((encQ p.tol).length + ((encQ p.light).length + ((encQ p.heavy).length + ((encQ p.str).length + (encQ p.rough).length))))))) := by simp [encP, hdP, numP]
 have l1 := lenI2 [p.id, p.home]
 have l2 := lenI2 (crn p.rim)
 have l3 := lenI2 (wnI p.worn)
 have l4 := lenI2 p.marks
 have l5 := encQ_up (hq p.tol (by simp [numP]))
 have l6 := encQ_up (hq p.light (by simp [numP]))
 have l7 := encQ_up (hq p.heavy (by simp [numP]))
 have l8 := encQ_up (hq p.str (by simp [numP]))
 have l9 := encQ_up (hq p.rough (by simp [numP]))
 rw [crn_len] at l2
 rw [wnI_len] at l3
 simp only [List.length_cons, List.length_nil] at l1
 omega
theorem vt_en (h : En p) : VT (tupP p) := by
 have hcl := crn_len p.rim
 have hwl := wnI_len p.worn
 have nr := h.nr
 have nw := h.nw
 have nm := h.nm
 have q : ∀ r ∈ numP p, VQ r := fun r hr => (h.q r hr).vq
 refine ⟨⟨fun x hx => ?_, show (-9223372036854775808 : Int) ≤ 2 by omega, show (2 : Int) ≤ 9223372036854775807 by omega⟩, ⟨crn_64 h.r, ?_⟩, ⟨wnI_64, ?_⟩, ⟨h.m, ?_⟩, q p.tol (by simp [numP]), q p.light (by simp [numP]), q p.heavy (by simp [numP]), q p.str (by simp [numP]), q p.rough (by simp [numP])⟩
 · simp only [tupP, List.mem_cons, List.not_mem_nil, or_false] at hx
   rcases hx with rfl | rfl
   · exact h.id
   · exact h.home
 · simp only [tupP]
   exact ⟨by omega, by omega⟩
 · simp only [tupP]
   exact ⟨by omega, by omega⟩
 · simp only [tupP]
   exact ⟨by omega, by omega⟩
theorem en_pr (ok : (prOf p).Ok) (le : (prOf p).Le 6) : En p ∧ (encP p).length ≤ 3600 := by
 have h1 : p.rim.length ≤ 6 := le.r
 have h2 : p.worn.length ≤ 6 := le.w
 have h3 : p.marks.length ≤ 6 := le.m
 have hq : ∀ r ∈ numP p, (digs r.num.natAbs).length ≤ 35 ∧ (digs (dq r).natAbs).length ≤ 35 := fun r hr => by
  simp only [numP, List.mem_cons, List.not_mem_nil, or_false] at hr
  rcases hr with rfl | rfl | rfl | rfl | rfl
  · exact digR ok.a p35
  · exact digR ok.b p35
  · exact digR ok.c p35
  · exact digR ok.d p35
  · exact digR ok.e p35
 have hl := (encP_up hq h1 h2 h3).1
 exact ⟨⟨ok.id, ok.home, ok.r, ok.m, by omega, by omega, by omega, fun r hr => by
  have := hq r hr
  exact ⟨by omega, by omega⟩⟩, by omega⟩
theorem en_pr7 (ok : (prOf p).Ok) (le : (prOf p).Le 7) : En p ∧ (encP p).length ≤ 3700 := by
 have h1 : p.rim.length ≤ 7 := le.r
 have h2 : p.worn.length ≤ 7 := le.w
 have h3 : p.marks.length ≤ 7 := le.m
 have hq : ∀ r ∈ numP p, (digs r.num.natAbs).length ≤ 35 ∧ (digs (dq r).natAbs).length ≤ 35 := fun r hr => by
  simp only [numP, List.mem_cons, List.not_mem_nil, or_false] at hr
  rcases hr with rfl | rfl | rfl | rfl | rfl
  · exact digR ok.a p35
  · exact digR ok.b p35
  · exact digR ok.c p35
  · exact digR ok.d p35
  · exact digR ok.e p35
 have hl := (encP_up hq h1 h2 h3).1
 exact ⟨⟨ok.id, ok.home, ok.r, ok.m, by omega, by omega, by omega, fun r hr => by
  have := hq r hr
  exact ⟨by omega, by omega⟩⟩, by omega⟩
end
end Go.Proofs.YtnpdpjfdgialeaaGreatDoor.E.Pc
namespace Go.Proofs.YtnpdpjfdgialeaaGreatDoor.E.Pc
open Go.RowKit
set_option linter.unusedVariables false
set_option linter.unusedSimpArgs false
def wnF (ws : List Bool) (k : Nat) : List Int := (List.range ws.length).map fun i => if i < k then (if ws.getD i false then 1 else 0) else 0
section
variable {p : Ct.Pi} {ws : List Bool} {i : Nat}
theorem wnF_0 (ws : List Bool) : List.replicate ws.length [ni 0] = zs (wnF ws 0) := by
 unfold zs wnF
 apply List.ext_getElem?
 intro i
 rw [List.map_map, List.getElem?_map, List.getElem?_replicate]
 by_cases h : i < ws.length
 · rw [if_pos h, List.getElem?_range h]; rfl
 · rw [if_neg h, List.getElem?_eq_none (by simpa using h)]; rfl
theorem wnF_n (ws : List Bool) : wnF ws ws.length = wnI ws := by
 unfold wnF wnI
 apply List.ext_getElem?
 intro i
 rw [List.getElem?_map, List.getElem?_map]
 by_cases h : i < ws.length
 · rw [List.getElem?_range h, List.getElem?_eq_getElem h]
   simp only [Option.map_some, if_pos h, List.getD_eq_getElem?_getD, List.getElem?_eq_getElem h, Option.getD_some]
 · rw [List.getElem?_eq_none (by simpa using h), List.getElem?_eq_none (by simpa using h)]; rfl
theorem wnF_at (h : i < ws.length) : (zs (wnF ws i))[i]? = some [ni 0] := by
 have := Ct.zs_fun_at (n := ws.length) (k := i) (f := fun j => if j < i then (if ws.getD j false then 1 else 0) else 0) h
 rw [if_neg (by omega)] at this
 exact this
theorem wnF_t (h : ws[i]? = some true) : (zs (wnF ws i)).set i [ni 1] = zs (wnF ws (i + 1)) := Ct.zs_fun (List.getElem?_eq_some_iff.1 h).1 (by rw [if_pos (by omega), List.getD_eq_getElem?_getD, h]; rfl) fun j hj => by
 have : j < i + 1 ↔ j < i := by omega
 simp only [this]
theorem wnF_f (h : ws[i]? = some false) : wnF ws (i + 1) = wnF ws i := by
 unfold wnF
 refine List.map_congr_left fun j hj => ?_
 by_cases e : j = i
 · subst e
   simp [List.getD_eq_getElem?_getD, h]
 · have : j < i + 1 ↔ j < i := by omega
   simp only [this]
noncomputable abbrev fE12 : Func := fnOf PP 31
theorem e_penc12 (h : En p) : Pure PP 31 [.ag p.v] (.o 5 1 (byL (encP p))) := by
 have hcl := crn_len p.rim
 have hwl := wnI_len p.worn
 have i1 : ∀ x ∈ [p.id, p.home], W.Is64 x := fun x hx => by
  simp at hx
  rcases hx with rfl | rfl
  · exact h.id
  · exact h.home
 have nr := h.nr
 have nw := h.nw
 have nm := h.nm
 have l1 := wl_ [p.id, p.home] (Nat.le_of_ble_eq_true rfl)
 have l2 := wl_ (crn p.rim) (by omega)
 have l3 := wl_ (wnI p.worn) (by omega)
 have l4 := wl_ p.marks (by omega)
 have w1 := e_rints i1 (Nat.le_of_ble_eq_true rfl)
 have w2 := e_rints (crn_64 h.r) (by omega)
 have w3 := e_rints (wnI_64 (l := p.worn)) (by omega)
 have w4 := e_rints h.m (by omega)
 have q0 := h.q p.tol (by simp [numP]); have q1 := h.q p.light (by simp [numP]); have q2 := h.q p.heavy (by simp [numP]); have q3 := h.q p.str (by simp [numP]); have q4 := h.q p.rough (by simp [numP])
 have n0 := q0.len; have n1 := q1.len; have n2 := q2.len; have n3 := q3.len; have n4 := q4.len
 have hpl : (Ct.ptR p.rim).length = p.rim.length := List.length_map ..
 have hwl2 : (Ct.wnR p.worn).length = p.worn.length := List.length_map ..
 let X : Nat → St := fun i => at_ fE12 [(1, .ip p.v), (3, .ow 1), (4, ni i)] [.dead, .rw 3 1 (zs (crn (p.rim.take i)))]
 let Z : Nat → St := fun i => at_ fE12 [(1, .ip p.v), (3, .ow 1), (5, .ow 2), (6, ni i)] [.dead, .rw 3 1 (zs (crn p.rim)), .rw 3 1 (zs (wnF p.worn i))]
 refine pf (by kernel_rfl) (.to mo_ [.fz 1, .ow 3 (.rw 3 1 [])] [1, 3, 4] [1] 2 [] (td' := lp fE12 0) (σ' := X 0) ?_ (by kernel_rfl))
 refine Gd.loop X (fun i => i ≤ p.rim.length) (fun i => p.rim.length - i) ?_ 0 (Nat.zero_le _)
 intro i hi ih
 have e13 : ni ((Ct.ptR p.rim).length : Int) = ni (p.rim.length : Int) := by rw [hpl]
 by_cases g : i < p.rim.length
 · obtain ⟨c, hc, _⟩ := Ct.get_of g
   have hnx := crn_next hc
   have hl2 := crn_len (p.rim.take (i + 1))
   rw [List.length_take] at hl2
   exact .to mo_ [.mv 1 3] [1, 3, 4] [1] 2 [.eqv 13 _ _ e13, ye (t := decide ((i : Int) < (p.rim.length : Int))) (decide_eq_true (by omega)), .sel _ _ _ (Ct.pt_at hc), .sel _ _ _ (Ct.pt_at hc), .app (zs (crn (p.rim.take i))) (zs [c.1, c.2]) (zs (crn (p.rim.take (i + 1)))) 1000 (by rw [hnx, zs_app]) (Nat.zero_lt_succ _) (by rw [zs_len]; omega), inc 16 i (by omega)] (ih (i + 1) g (by omega)) (by kernel_rfl)
 have hi2 : i = p.rim.length := by omega
 subst hi2
 simp only [X]
 rw [List.take_length]
 have e34 : ni ((Ct.wnR p.worn).length : Int) = ni (p.worn.length : Int) := by rw [hwl2]
 refine .to mo_ [] [1, 3, 5, 6] [1, 2] 3 [.eqv 13 _ _ e13, na (t := decide ((p.rim.length : Int) < (p.rim.length : Int))) (decide_eq_false (by omega)), .eqv 34 _ _ e34, .mk p.worn.length (by omega)] (td' := lp fE12 1) (σ' := at_ fE12 [(1, .ip p.v), (3, .ow 1), (5, .ow 2), (6, ni ((0 : Nat) : Int))] [.dead, .rw 3 1 (zs (crn p.rim)), .rw 3 1 (List.replicate p.worn.length [ni 0])]) ?_ (by kernel_rfl)
 rw [wnF_0]
 refine Gd.loop Z (fun i => i ≤ p.worn.length) (fun i => p.worn.length - i) ?_ 0 (Nat.zero_le _)
 intro i hi ih
 by_cases g : i < p.worn.length
 · obtain ⟨w, hw, _⟩ := Ct.get_of g
   have nx := ih (i + 1) g (by omega)
   cases w with
   | true => exact .to mo_ [] [1, 3, 5, 6] [1, 2] 3 [.eqv 39 _ _ e34, ye (t := decide ((i : Int) < (p.worn.length : Int))) (decide_eq_true (by omega)), .sel _ _ _ (wn_at hw), yt, .sel _ _ _ (wnF_at g), .upd _ _ _ _ _ (wnF_at g) (wnF_t hw), inc 42 i (by omega)] nx (by kernel_rfl)
   | false =>
    simp only [Z] at nx ⊢
    rw [wnF_f hw] at nx
    exact .to mo_ [] [1, 3, 5, 6] [1, 2] 3 [.eqv 39 _ _ e34, ye (t := decide ((i : Int) < (p.worn.length : Int))) (decide_eq_true (by omega)), .sel _ _ _ (wn_at hw), nf, inc 42 i (by omega)] nx (by kernel_rfl)
 have hi2 : i = p.worn.length := by omega
 subst hi2
 simp only [Z]
 rw [wnF_n]
 have lh : (hdP p).length ≤ 4000 := by unfold hdP; simp only [List.length_append]; omega
 let Q : Nat → List UInt8 := fun i => hdP p ++ ((numP p).take i).flatMap encQ
 let RS : List (List V) := [dR p.tol, dR p.light, dR p.heavy, dR p.str, dR p.rough]
 let Y : Nat → St := fun i => at_ fE12 [(7, .ow 10), (8, .ow 11), (9, ni i)] [.dead, .dead, .dead, .dead, .dead, .dead, .dead, .dead, .dead, .dead, .rw 5 1 (byL (Q i)), .rw 28 4 RS]
 have p1 : Q 1 = Q 0 ++ encQ p.tol := by simp [Q, numP]
 have p2 : Q 2 = Q 1 ++ encQ p.light := by simp [Q, numP]
 have p3 : Q 3 = Q 2 ++ encQ p.heavy := by simp [Q, numP]
 have p4 : Q 4 = Q 3 ++ encQ p.str := by simp [Q, numP]
 have p5 : Q 5 = Q 4 ++ encQ p.rough := by simp [Q, numP]
 have pe : Q 5 = encP p := rfl
 have pz : W.encI [p.id, p.home] ++ W.encI (crn p.rim) ++ W.encI (wnI p.worn) ++ W.encI p.marks = Q 0 := by simp [Q, hdP]
 have pl0 : (Q 0).length = (hdP p).length := by simp [Q]
 have pl1 : (Q 1).length = (Q 0).length + (encQ p.tol).length := by rw [p1, List.length_append]
 have pl2 : (Q 2).length = (Q 1).length + (encQ p.light).length := by rw [p2, List.length_append]
 have pl3 : (Q 3).length = (Q 2).length + (encQ p.heavy).length := by rw [p3, List.length_append]
 have pl4 : (Q 4).length = (Q 3).length + (encQ p.str).length := by rw [p4, List.length_append]
 have pl5 : (Q 5).length = (Q 4).length + (encQ p.rough).length := by rw [p5, List.length_append]
 have e39 : ni ((Ct.wnR p.worn).length : Int) = ni (p.worn.length : Int) := e34
 have hx : decide ((p.worn.length : Int) < (p.worn.length : Int)) = false := decide_eq_false (by omega)
 have b1 : byL (W.encI [p.id, p.home]) ++ byL (W.encI (crn p.rim)) = byL (W.encI [p.id, p.home] ++ W.encI (crn p.rim)) := byL_app _ _
 have b2 : byL (W.encI [p.id, p.home] ++ W.encI (crn p.rim)) ++ byL (W.encI (wnI p.worn)) = byL (W.encI [p.id, p.home] ++ W.encI (crn p.rim) ++ W.encI (wnI p.worn)) := byL_app _ _
 have b3 : byL (W.encI [p.id, p.home] ++ W.encI (crn p.rim) ++ W.encI (wnI p.worn)) ++ byL (W.encI p.marks) = byL (Q 0) := by rw [← pz]; exact byL_app _ _
 refine .to mo_ [] [7, 8, 9] [10, 11] 12 [.eqv 39 _ _ e39, na hx, cl w1, cl w2, .app _ _ _ 100000 b1 (by rw [byL_len]; omega) (by rw [byL_len, List.length_append]; omega), cl w3, .app _ _ _ 100000 b2 (by rw [byL_len]; omega) (by rw [byL_len, List.length_append, List.length_append]; omega), cl w4, .app _ _ _ 100000 b3 (by rw [byL_len]; omega) (by rw [byL_len]; omega)] (td' := lp fE12 2) (σ' := Y 0) ?_ (by kernel_rfl)
 refine .to mo_ [.mv 10 13] [7, 8, 9] [10, 11] 12 [yt, .sel RS 0 (dR p.tol) rfl, .sel RS 0 (dR p.tol) rfl, cl (e_renc4 q0.fq), .app (byL (Q 0)) (byL (encQ p.tol)) (byL (Q 1)) 100000 (by rw [byL_app, p1]) (by rw [byL_len]; omega) (by rw [byL_len]; omega)] (td' := lp fE12 2) (σ' := Y 1) ?_ (by kernel_rfl)
 refine .to mo_ [.mv 10 13] [7, 8, 9] [10, 11] 12 [yt, .sel RS 1 (dR p.light) rfl, .sel RS 1 (dR p.light) rfl, cl (e_renc4 q1.fq), .app (byL (Q 1)) (byL (encQ p.light)) (byL (Q 2)) 100000 (by rw [byL_app, p2]) (by rw [byL_len]; omega) (by rw [byL_len]; omega)] (td' := lp fE12 2) (σ' := Y 2) ?_ (by kernel_rfl)
 refine .to mo_ [.mv 10 13] [7, 8, 9] [10, 11] 12 [yt, .sel RS 2 (dR p.heavy) rfl, .sel RS 2 (dR p.heavy) rfl, cl (e_renc4 q2.fq), .app (byL (Q 2)) (byL (encQ p.heavy)) (byL (Q 3)) 100000 (by rw [byL_app, p3]) (by rw [byL_len]; omega) (by rw [byL_len]; omega)] (td' := lp fE12 2) (σ' := Y 3) ?_ (by kernel_rfl)
 refine .to mo_ [.mv 10 13] [7, 8, 9] [10, 11] 12 [yt, .sel RS 3 (dR p.str) rfl, .sel RS 3 (dR p.str) rfl, cl (e_renc4 q3.fq), .app (byL (Q 3)) (byL (encQ p.str)) (byL (Q 4)) 100000 (by rw [byL_app, p4]) (by rw [byL_len]; omega) (by rw [byL_len]; omega)] (td' := lp fE12 2) (σ' := Y 4) ?_ (by kernel_rfl)
 refine .to mo_ [.mv 10 13] [7, 8, 9] [10, 11] 12 [yt, .sel RS 4 (dR p.rough) rfl, .sel RS 4 (dR p.rough) rfl, cl (e_renc4 q4.fq), .app (byL (Q 4)) (byL (encQ p.rough)) (byL (Q 5)) 100000 (by rw [byL_app, p5]) (by rw [byL_len]; omega) (by rw [byL_len]; omega)] (td' := lp fE12 2) (σ' := Y 5) ?_ (by kernel_rfl)
 rw [← pe]
 exact fi [nf] (by kernel_rfl) (by kernel_rfl)
end
end Go.Proofs.YtnpdpjfdgialeaaGreatDoor.E.Pc
namespace Go.Proofs.YtnpdpjfdgialeaaGreatDoor.Sh
open Go
set_option linter.unusedVariables false
set_option linter.unusedSimpArgs false
abbrev Wd : Type := BitVec 32
def wi (x : Wd) : Int := (x.toNat : Int)
section
variable {x y : Wd} {n : Nat}
theorem w_lt (x : Wd) : x.toNat < 4294967296 := x.isLt
theorem w_xor (x y : Wd) : bits .xor .u32 (wi x) (wi y) = wi (x ^^^ y) := by
 unfold wi
 rw [u32_xor_nat _ _ (w_lt x) (w_lt y), BitVec.toNat_xor]
theorem w_and (x y : Wd) : bits .and .u32 (wi x) (wi y) = wi (x &&& y) := by
 unfold wi
 rw [u32_and_nat _ _ (w_lt x) (w_lt y), BitVec.toNat_and]
theorem w_or (x y : Wd) : bits .or .u32 (wi x) (wi y) = wi (x ||| y) := by
 unfold wi
 rw [u32_or_nat _ _ (w_lt x) (w_lt y), BitVec.toNat_or]
theorem w_add (x y : Wd) : IntKind.u32.wrap (wi x + wi y) = wi (x + y) := by
 unfold wi
 rw [IntKind.wrap_u32', BitVec.toNat_add]
 omega
theorem w_shl (x : Wd) (n : Nat) : IntKind.u32.wrap (wi x * 2 ^ n) = wi (x <<< n) := by
 unfold wi
 rw [IntKind.wrap_u32', BitVec.toNat_shiftLeft, Nat.shiftLeft_eq]
 have : ((x.toNat : Int) * 2 ^ n) = ((x.toNat * 2 ^ n : Nat) : Int) := by rw [Int.natCast_mul, Int.natCast_pow]; rfl
 rw [this]
 omega
theorem w_shr (x : Wd) (n : Nat) : (wi x).fdiv (2 ^ n) = wi (x >>> n) := by
 unfold wi
 rw [BitVec.toNat_ushiftRight, Nat.shiftRight_eq_div_pow, show ((2 : Int) ^ n) = ((2 ^ n : Nat) : Int) by rw [Int.natCast_pow]; rfl, Int.fdiv_eq_ediv_of_nonneg _ (Int.natCast_nonneg _)]
 rfl
theorem w_not (x : Wd) : x ^^^ 0xffffffff#32 = ~~~x := by
 exact BitVec.xor_allOnes
end
/-- A rotation to the right. -/
def rr (n : Nat) (x : Wd) : Wd := (x >>> n) ||| (x <<< (32 - n))
theorem rr_l (n : Nat) (x : Wd) : (x <<< (32 - n)) ||| (x >>> n) = rr n x := BitVec.or_comm _ _
def bs0 (x : Wd) : Wd := rr 2 x ^^^ rr 13 x ^^^ rr 22 x
def bs1 (x : Wd) : Wd := rr 6 x ^^^ rr 11 x ^^^ rr 25 x
def ss0 (x : Wd) : Wd := rr 7 x ^^^ rr 18 x ^^^ (x >>> 3)
def ss1 (x : Wd) : Wd := rr 17 x ^^^ rr 19 x ^^^ (x >>> 10)
def chW (e f g : Wd) : Wd := (e &&& f) ^^^ (~~~e &&& g)
def maW (a b c : Wd) : Wd := (a &&& b) ^^^ (a &&& c) ^^^ (b &&& c)
/-- A word of a block. -/
def bw (a b c d : UInt8) : Wd := (BitVec.ofNat 32 a.toNat <<< 24) ||| (BitVec.ofNat 32 b.toNat <<< 16) ||| (BitVec.ofNat 32 c.toNat <<< 8) ||| BitVec.ofNat 32 d.toNat
theorem or_fold (A B C D : Wd) : ((((((((0#32 <<< 8) ||| A) <<< 8) ||| B) <<< 8) ||| C) <<< 8) ||| D) = (A <<< 24) ||| (B <<< 16) ||| (C <<< 8) ||| D := by
 have h0 : (0#32 <<< 8 : Wd) = 0#32 := rfl
 rw [h0, BitVec.zero_or]
 simp only [BitVec.shiftLeft_or_distrib, ← BitVec.shiftLeft_add]
/-- The schedule: so many words of it. -/
def wordsU (b : List UInt8) : Nat → List Wd
 | 0 => []
 | t + 1 =>
  let w := wordsU b t
  w ++ [if t < 16 then bw (b.getD (4 * t) 0) (b.getD (4 * t + 1) 0) (b.getD (4 * t + 2) 0) (b.getD (4 * t + 3) 0) else w.getD (t - 16) 0 + ss0 (w.getD (t - 15) 0) + w.getD (t - 7) 0 + ss1 (w.getD (t - 2) 0)]
theorem wordsU_len (b : List UInt8) : ∀ t, (wordsU b t).length = t
 | 0 => rfl
 | t + 1 => by
  have := wordsU_len b t
  simp [wordsU, this]
structure S8 where
 a : Wd
 b : Wd
 c : Wd
 d : Wd
 e : Wd
 f : Wd
 g : Wd
 h : Wd
/-- A round. -/
def S8.round (s : S8) (k w : Wd) : S8 :=
 let x := s.h + bs1 s.e + chW s.e s.f s.g + k + w
 let y := bs0 s.a + maW s.a s.b s.c
 ⟨x + y, s.a, s.b, s.c, s.d + x, s.e, s.f, s.g⟩
def S8.add (s t : S8) : S8 := ⟨s.a + t.a, s.b + t.b, s.c + t.c, s.d + t.d, s.e + t.e, s.f + t.f, s.g + t.g, s.h + t.h⟩
/-- So many rounds. -/
def S8.rounds (K W : List Wd) (s : S8) : Nat → S8
 | 0 => s
 | t + 1 => (S8.rounds K W s t).round (K.getD t 0) (W.getD t 0)
def S8.block (K : List Wd) (s : S8) (b : List UInt8) : S8 := s.add (S8.rounds K (wordsU b 64) s 64)
/-- The whole blocks of a text. -/
def S8.blocks (K : List Wd) (s : S8) (m : List UInt8) : Nat → S8
 | 0 => s
 | n + 1 => (S8.blocks K s m n).block K ((m.drop (64 * n)).take 64)
end Go.Proofs.YtnpdpjfdgialeaaGreatDoor.Sh
namespace Go.Proofs.YtnpdpjfdgialeaaGreatDoor.Sh
open Go
set_option linter.unusedVariables false
set_option linter.unusedSimpArgs false
section
variable {K : List Wd} {s iv st : S8} {m t blk : List UInt8} {n k : Nat}
theorem blocks_app (h : 64 * n ≤ m.length) : S8.blocks K s (m ++ t) n = S8.blocks K s m n := by
 induction n with
 | zero => rfl
 | succ n ih =>
  have e : ((m ++ t).drop (64 * n)).take 64 = (m.drop (64 * n)).take 64 := by
   rw [List.drop_append_of_le_length (by omega), List.take_append_of_le_length (by rw [List.length_drop]; omega)]
  show (S8.blocks K s (m ++ t) n).block K _ = (S8.blocks K s m n).block K _
  rw [ih (by omega), e]
/-- What a stream holds behind a text: the state, the last block. -/
structure Str (K : List Wd) (iv : S8) (m : List UInt8) (st : S8) (blk : List UInt8) : Prop where
 st : st = S8.blocks K iv m (m.length / 64)
 len : blk.length = 64
 blk : blk.take (m.length % 64) = m.drop (64 * (m.length / 64))
theorem Str.nil (h : blk.length = 64) : Str K iv [] iv blk := ⟨rfl, h, by simp⟩
/-- The block behind k further bytes. -/
def blkU (blk : List UInt8) (a k : Nat) (t : List UInt8) : List UInt8 := blk.take a ++ (t.take k ++ blk.drop (a + k))
theorem blkU_len (h : blk.length = 64) (hk : n + k ≤ 64) (ht : k ≤ t.length) : (blkU blk n k t).length = 64 := by
 unfold blkU
 simp only [List.length_append, List.length_take, List.length_drop]
 omega
/-- Bytes that do not fill the block. -/
theorem Str.part (H : Str K iv m st blk) (hk : m.length % 64 + k < 64) (ht : k ≤ t.length) : Str K iv (m ++ t.take k) st (blkU blk (m.length % 64) k t) := by
 obtain ⟨h1, h2, h3⟩ := H
 have hl : (m ++ t.take k).length = m.length + k := by rw [List.length_append, List.length_take]; omega
 have hq : (m.length + k) / 64 = m.length / 64 := by omega
 have hr : (m.length + k) % 64 = m.length % 64 + k := by omega
 refine ⟨?_, blkU_len h2 (by omega) ht, ?_⟩
 · rw [hl, hq, blocks_app (by omega)]
   exact h1
 · rw [hl, hr, hq, List.drop_append_of_le_length (by omega), ← h3]
   unfold blkU
   rw [← List.append_assoc, List.take_append_of_le_length (by simp only [List.length_append, List.length_take]; omega), List.take_of_length_le (by simp only [List.length_append, List.length_take]; omega)]
/-- Bytes that fill the block. -/
theorem Str.full (H : Str K iv m st blk) (hk : m.length % 64 + k = 64) (ht : k ≤ t.length) : Str K iv (m ++ t.take k) (st.block K (blkU blk (m.length % 64) k t)) (blkU blk (m.length % 64) k t) := by
 obtain ⟨h1, h2, h3⟩ := H
 have hl : (m ++ t.take k).length = m.length + k := by rw [List.length_append, List.length_take]; omega
 have hq : (m.length + k) / 64 = m.length / 64 + 1 := by omega
 have hr : (m.length + k) % 64 = 0 := by omega
 have hb : blkU blk (m.length % 64) k t = (m ++ t.take k).drop (64 * (m.length / 64)) := by
  rw [List.drop_append_of_le_length (by omega), ← h3]
  unfold blkU
  rw [hk, List.drop_of_length_le (by omega), List.append_nil]
 have hbl := blkU_len h2 (Nat.le_of_eq hk) ht
 refine ⟨?_, hbl, ?_⟩
 · rw [hl, hq]
   show _ = (S8.blocks K iv (m ++ t.take k) (m.length / 64)).block K (((m ++ t.take k).drop (64 * (m.length / 64))).take 64)
   rw [blocks_app (by omega), ← h1, ← hb, List.take_of_length_le (Nat.le_of_eq hbl)]
 · rw [hl, hr, hq, List.take_zero, List.drop_of_length_le (by omega)]
/-- What is written behind a text. -/
def zerosN (n : Nat) : Nat := (119 - n % 64) % 64
def padU (n : Nat) : List UInt8 := 128 :: (List.replicate (zerosN n) 0 ++ (List.range 8).map fun i => UInt8.ofNat (8 * n / 2 ^ (56 - 8 * i)))
theorem padU_len (n : Nat) : (n + (padU n).length) % 64 = 0 := by
 unfold padU zerosN
 simp only [List.length_cons, List.length_append, List.length_replicate, List.length_map, List.length_range]
 omega
/-- The state behind the whole text. -/
def shaS (K : List Wd) (iv : S8) (m : List UInt8) : S8 := S8.blocks K iv (m ++ padU m.length) ((m ++ padU m.length).length / 64)
end
end Go.Proofs.YtnpdpjfdgialeaaGreatDoor.Sh
namespace Go.Proofs.YtnpdpjfdgialeaaGreatDoor.E
open Go.RowKit
set_option linter.unusedVariables false
set_option linter.unusedSimpArgs false
section
variable {P : Program} {w : World}
def mkIa (T : TypeId) (xs : List Operand) : Op := .indexAddr T (xs.getD 0 (.tmp 0)) (xs.getD 1 (.tmp 0))
def mkLd (T : TypeId) (xs : List Operand) : Op := .load T (xs.getD 0 (.tmp 0))
def mkSt (T : TypeId) (xs : List Operand) : Op := .store T (xs.getD 0 (.tmp 0)) (xs.getD 1 (.tmp 0))
theorem ops2 {α : Type} {xs : List α} (h : xs.length = 2) : ∃ x y, xs = [x, y] := by
 match xs, h with
 | [x, y], _ => exact ⟨x, y, rfl⟩
theorem ops1 {α : Type} {xs : List α} (h : xs.length = 1) : ∃ x, xs = [x] := by
 match xs, h with
 | [x], _ => exact ⟨x, rfl⟩
/-- The address of an element of an array. -/
theorem x_ia {T e n q b o t : Nat} (hd : P.underlying T = some (.array n e)) (hq : szT P e = some q) (ht : t < n) : Ext P (mkIa T) [.lp b o, ni (t : Int)] [] [] (.lp b (o + t * q)) := by
 intro B M h m w a op xs ho K hl hr hrd _
 obtain ⟨x, y, rfl⟩ := ops2 hl
 have hx := hr 0 x _ rfl rfl
 have hy := Rep.k_inv (hr 1 y _ rfl rfl)
 simp only [mkIa, List.getD_cons_zero, List.getD_cons_succ] at ho
 generalize hu : a.eval x = u at hx
 cases hx with
 | lp _ _ _ g hg =>
  refine Exec.val (u := .pointer (some ⟨g, o + t * q, none⟩)) (w' := w) ?_ (.same K (.lp _ _ _ _ hg))
  have h1 : (0 : Int) ≤ (t : Int) := Int.natCast_nonneg t
  have h2 : (t : Int) < (n : Int) := Int.ofNat_lt.2 ht
  simp [execOp, ho, Instr.indexAt, run_under hd, hu, hy, asIntOf, Instr.sureAddr, h1, h2, ht, run_size hq, Addr.add_lit]
/-- A cell of a box is read. -/
theorem x_ld {T U b o : Nat} {l : List V} {d : V} (hp : pack P T [d] = some d) (hd : l[o]? = some d) : Ext P (mkLd T) [.lp b o] [(b, .bx U l)] [] d := by
 intro B M h m w a op xs ho K hl hr hrd _
 obtain ⟨x, rfl⟩ := ops1 hl
 have hx := hr 0 x _ rfl rfl
 have hb : h b = .bx U l := hrd (b, .bx U l) (List.mem_singleton.2 rfl)
 simp only [mkLd, List.getD_cons_zero] at ho
 obtain ⟨g, cs, h1, h2, h3, h4, h5⟩ := K.bx b U l hb
 have ho2 : o < cs.size := by rw [h4]; exact (List.getElem?_eq_some_iff.1 hd).1
 generalize hu : a.eval x = u at hx
 cases hx with
 | lp _ _ _ g' hg =>
  rw [h1] at hg
  injection hg with hg
  injection hg with hg
  injection hg with hg
  injection hg with hg
  subst hg
  obtain ⟨v, e1, e2⟩ := load_ok (P := P) (w := w) (b := g) (o := o) hp (fun j y hj => by
   match j with
   | 0 =>
    injection hj with hj
    subst hj
    exact ⟨cs.getD o undef, by simp [World.cell?, h3, ho2], h5 o d hd⟩
   | j + 1 => simp at hj)
  refine Exec.val (u := v) (w' := w) ?_ (.same K e2)
  simp [execOp, ho, Instr.loadAt, hu, Instr.sureAddr, e1]
def stO (T : TypeId) (o : Oper) : Oper := { o with op := mkSt T [.tmp 0, .tmp 1], guard := none }
theorem splice1 {l : List V} {o : Nat} {v : V} (h : o < l.length) : splice l o [v] = l.set o v := by
 unfold splice
 rw [List.set_eq_take_append_cons_drop, if_pos h]
 simp
/-- A cell of a box is written. -/
theorem x_st {T U b o : Nat} {l l' : List V} {v : V} (hs : szT P T = some 1) (hc : ceV v = [v]) (h1v : one v = true) (ho3 : o < l.length) (hl' : l.set o v = l') : Ext P (mkSt T) [.lp b o, v] [(b, .bx U l)] [(b, .bx U l')] .un := by
 intro B M h m w a op xs ho K hl hr hrd _
 obtain ⟨x, y, rfl⟩ := ops2 hl
 have hx := hr 0 x _ rfl rfl
 have hy := hr 1 y _ rfl rfl
 have hb : h b = .bx U l := hrd (b, .bx U l) (List.mem_singleton.2 rfl)
 let a' : Act := { a with tmps := #[a.eval x, a.eval y] }
 let σ : St := ⟨[.lp b o, v], (List.replicate (b + 1) HO.dead).set b (.bx U l)⟩
 have hlen : σ.h.length = b + 1 := by simp [σ]
 have hho : σ.ho b = .bx U l := by simp [σ, St.ho]
 have e0 : aop P (stO T op) σ ([] : List (Fa P)) = some ⟨.un, [(b, .bx U l')], [], [], []⟩ := by
  have s1 : σ.ev (.tmp 0) = .lp b o := rfl
  have s2 : σ.evT P T (.tmp 1) = v := rfl
  have hble : Nat.ble (o + 1) l.length = true := Nat.ble_eq_true_of_le ho3
  have hbe : Nat.beq 1 1 = true := rfl
  show (match σ.ev (.tmp 0) with
   | .lp b o => match σ.ho b with
     | .bx U l => match (match szT P T with | some n => Nat.beq n (ceV (σ.evT P T (.tmp 1))).length | none => false) && Nat.ble (o + (ceV (σ.evT P T (.tmp 1))).length) l.length && (ceV (σ.evT P T (.tmp 1))).all one with
       | true => (some (⟨.un, [(b, .bx U (splice l o (ceV (σ.evT P T (.tmp 1)))))], [], [], []⟩ : R P))
       | false => none
     | _ => none
   | _ => none) = _
  rw [s1]
  simp only [hho, s2, hc, hs, List.length_cons, List.length_nil, Nat.zero_add, hbe, hble, List.all_cons, List.all_nil, h1v, Bool.and_self, Bool.and_true, splice1 ho3, hl']
 have hop : Opd w (Av M h m) m (stO T op) a' σ := by
  refine ⟨fun t ht => ?_, K.gl⟩
  have : t = 0 ∨ t = 1 := by simpa [looks, stO, mkSt, Op.operands] using ht
  rcases this with rfl | rfl
  · exact hx
  · exact hy
 have G := store_ok (o := stO T op) (a := a') K rfl e0 (fun p hp => by cases hp) hop (fun c hc hlt => by
   simp only [List.map_cons, List.map_nil, List.mem_cons, List.not_mem_nil, or_false] at hc
   subst hc
   rw [hb, hho])
 have heq : execOp a'.eval (stO T op) = execOp a.eval op := by
  have e1 : a'.eval (.tmp 0) = a.eval x := rfl
  have e2 : a'.eval (.tmp 1) = a.eval y := rfl
  simp [execOp, stO, mkSt, ho, e1, e2]
 unfold Goal_ Exec at G
 rw [heq] at G
 exact G
def mkIx (T : TypeId) (xs : List Operand) : Op := .index T (xs.getD 0 (.tmp 0)) (xs.getD 1 (.tmp 0))
/-- An element of an array that is a value. -/
theorem x_ix {T n e t : Nat} {l : List V} {d : V} (hd : P.underlying T = some (.array n e)) (hq : szT P e = some 1) (ht : t < n) (hp : pack P e [d] = some d) (hl0 : l[t]? = some d) : Ext P (mkIx T) [.ag l, ni (t : Int)] [] [] d := by
 intro B M h m w a op xs ho K hl hr hrd _
 obtain ⟨x, y, rfl⟩ := ops2 hl
 have hx := hr 0 x _ rfl rfl
 have hy := Rep.k_inv (hr 1 y _ rfl rfl)
 simp only [mkIx, List.getD_cons_zero, List.getD_cons_succ] at ho
 have hv : pack P e ((l.drop (t * 1)).take 1) = some d := by
  rw [Nat.mul_one, List.drop_eq_getElem_cons (List.getElem?_eq_some_iff.1 hl0).1, List.take_succ_cons, List.take_zero, (List.getElem?_eq_some_iff.1 hl0).2]
  exact hp
 generalize hu : a.eval x = u at hx
 cases hx with
 | ag _ cs _ s1 r1 =>
  obtain ⟨u, h1, h2⟩ := part_ok s1 r1 hq hv
  refine Exec.val (u := u) (w' := w) ?_ (.same K h2)
  have g1 : (0 : Int) ≤ (t : Int) := Int.natCast_nonneg t
  have g2 : (t : Int) < (n : Int) := Int.ofNat_lt.2 ht
  rw [Nat.mul_one] at h1
  simp [execOp, ho, Instr.index, hu, hy, asIntOf, run_under hd, run_size hq, g1, g2, ht, h1]
end
end Go.Proofs.YtnpdpjfdgialeaaGreatDoor.E
