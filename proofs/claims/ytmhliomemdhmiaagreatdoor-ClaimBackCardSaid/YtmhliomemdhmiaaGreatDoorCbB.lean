/-
 CLAIMS: decoding (plain), and the reference's Decode, by the engine.
-/
import Derived.Test.YtmhliomemdhmiaaGreatDoorEtD
import Derived.Test.YtmhliomemdhmiaaGreatDoorEqA
import Derived.Test.YtmhliomemdhmiaaGreatDoorPlainX
namespace Go.Proofs.YtmhliomemdhmiaaGreatDoor.E
open Go.RowKit
set_option linter.unusedVariables false
set_option linter.unusedSimpArgs false
theorem e_growB {n : Nat} (h : 0 < n ∧ n ≤ 100000) : Pure PP 130 [.nl, ni n] (.o 5 1 []) :=
 tr [na (t := decide ((n : Int) < 0)) (decide_eq_false (by omega)), .nil, .eqv 13 (ni (IntKind.i64.wrap (0 - 0))) (ni 0) rfl, wq 14 ((n : Int) - 0) (n : Int) (by omega), ye (t := decide ((n : Int) > 0)) (decide_eq_true (by omega)), .nil, .nil, .apz n (by omega), .trn (List.replicate n [.k (.int .u8 0)]) [] 0 rfl (Nat.zero_le _)] (by kernel_rfl)
noncomputable abbrev fcB : Func := fnOf PP 69
def rowsB (ls : List (List UInt8)) : List (List V) := ls.map fun b => [.sl (byL b)]
theorem e_concatB {ls : List (List UInt8)} (h0 : 0 < ls.flatten.length) (h1 : ls.flatten.length ≤ 100000) (hn : ls.length ≤ 1000) (hp : ∀ b ∈ ls, 0 < b.length) : Pure PP 69 [.sl (rowsB ls)] (.o 5 1 (byL ls.flatten)) := by
 have hl : (rowsB ls).length = ls.length := List.length_map ..
 have el : ∀ {i}, i < ls.length → (rowsB ls)[i]? = some [.sl (byL (ls.getD i []))] := fun {i} h => by
  unfold rowsB
  rw [List.getElem?_map, List.getD_eq_getElem?_getD, List.getElem?_eq_getElem h]; rfl
 have hx : ∀ {i}, i < ls.length → ls[i]? = some (ls.getD i []) := fun {i} h => by rw [List.getD_eq_getElem?_getD, List.getElem?_eq_getElem h]; rfl
 let S : Nat → List UInt8 := fun i => (ls.take i).flatten
 have hS : ∀ {i}, i < ls.length → S (i + 1) = S i ++ ls.getD i [] := fun {i} h => by simp only [S]; rw [List.take_add_one, hx h]; simp
 have hSl : ∀ i, (S i).length ≤ ls.flatten.length := fun i => by
  have : ls.flatten = S i ++ (ls.drop i).flatten := by simp only [S]; rw [← List.flatten_append, List.take_append_drop]
  rw [this, List.length_append]; omega
 have hSn : S ls.length = ls.flatten := by simp [S]
 let X : Nat → St := fun i => at_ fcB [(0, .sl (rowsB ls)), (3, ni ((S i).length : Int)), (9, .sl (rowsB ls)), (10, ni ((rowsB ls).length : Int)), (11, ni i)] []
 let Y : Nat → St := fun i => at_ fcB [(6, .ow 0), (25, .sl (rowsB ls)), (26, ni ((rowsB ls).length : Int)), (27, ni i)] [.rw 5 1 (byL (S i))]
 refine pf (by kernel_rfl) (.to mo_ [] [0, 3, 9, 10, 11] [] 0 [] (td' := lp fcB 0) (σ' := X 0) ?_ (by kernel_rfl))
 refine Gd.loop X (fun i => i ≤ ls.length) (fun i => ls.length - i) ?_ 0 (Nat.zero_le _)
 intro i hi ih
 by_cases h : i < ls.length
 · have e := el h
   have hs := hS h
   have h2 := hSl (i + 1)
   rw [hs, List.length_append] at h2
   exact .to mo_ [] [0, 3, 9, 10, 11] [] 0 [ye (t := decide ((i : Int) < ((rowsB ls).length : Int))) (decide_eq_true (by omega)), .sel _ _ _ e, .eqv 17 (ni ((byL (ls.getD i [])).length : Int)) (ni ((ls.getD i []).length : Int)) (by rw [byL_len]), wq 18 (((S i).length : Int) + ((ls.getD i []).length : Int)) ((S (i + 1)).length : Int) (by rw [hs, List.length_append]; omega), na (t := decide (((S (i + 1)).length : Int) < 0)) (decide_eq_false (by omega)), inc 22 i (by omega)] (ih (i + 1) h (by omega)) (by kernel_rfl)
 · have hi2 : i = ls.length := by omega
   subst hi2
   refine .to mo_ [] [6, 25, 26, 27] [0] 1 [na (t := decide ((ls.length : Int) < ((rowsB ls).length : Int))) (decide_eq_false (by omega)), .newr true false _ _ _ _ _ (e_growB (n := (S ls.length).length) (by rw [hSn]; exact ⟨h0, h1⟩)) (fun cs h => by cases h)] (td' := lp fcB 1) (σ' := Y 0) ?_ (by kernel_rfl)
   refine Gd.loop Y (fun i => i ≤ ls.length) (fun i => ls.length - i) ?_ 0 (Nat.zero_le _)
   intro i hi jh
   by_cases g : i < ls.length
   · have e := el g
     have hs := hS g
     have h2 := hSl (i + 1)
     have h3 := hp (ls.getD i []) (List.mem_of_getElem? (hx g))
     exact .to mo_ [.mv 0 1] [6, 25, 26, 27] [0] 1 [ye (t := decide ((i : Int) < ((rowsB ls).length : Int))) (decide_eq_true (by omega)), .sel _ _ _ e, .aps (byL (S i)) (byL (ls.getD i [])) (byL (S (i + 1))) 100000 1 (by rw [byL_app, hs]) (by rw [byL_len]; exact h3) (by rw [byL_len]; omega) (byL_ok _), inc 34 i (by omega)] (jh (i + 1) g (by omega)) (by kernel_rfl)
   · have hi3 : i = ls.length := by omega
     subst hi3
     rw [← hSn]
     exact fi [na (t := decide ((ls.length : Int) < ((rowsB ls).length : Int))) (decide_eq_false (by omega))] (by kernel_rfl) (by kernel_rfl)
section
variable {x y : Int} {k : Nat} {r : Rat}
def encQ (r : Rat) : List UInt8 := encZ r.num ++ encZ (dq r)
/-- Few digits. -/
def Fq (r : Rat) : Prop := (digs r.num.natAbs).length ≤ 4000 ∧ (digs (dq r).natAbs).length ≤ 4000
theorem encZ_len (x : Int) : 1 ≤ (encZ x).length ∧ (encZ x).length ≤ 18 + 9 * (digs x.natAbs).length := by
 unfold encZ
 have h1 := W.encI_le (znL x)
 have h2 := (W.enc_le ((znL x).length : Int)).1
 refine ⟨by unfold W.encI; rw [List.length_append]; omega, ?_⟩
 simp only [znL, List.length_cons] at h1 ⊢
 omega
theorem encQ_len (h : Fq r) : 2 ≤ (encQ r).length ∧ (encQ r).length ≤ 72036 := by
 have h1 := encZ_len r.num
 have h2 := encZ_len (dq r)
 obtain ⟨h3, h4⟩ := h
 unfold encQ
 rw [List.length_append]
 omega
theorem e_renc (h : Fq r) : Pure PP 70 [.ag (dR r)] (.o 5 1 (byL (encQ r))) := by
 have c1 := e_ienc (x := r.num) (by have := h.1; unfold Fz; omega)
 have c2 := e_ienc (x := dq r) (by have := h.2; unfold Fz; omega)
 have hl := encQ_len h
 have l1 := encZ_len r.num
 have l2 := encZ_len (dq r)
 have c3 := e_concatB (ls := [encZ r.num, encZ (dq r)]) (by simp; omega) (by unfold encQ at hl; simp at hl ⊢; omega) (by simp) (fun b hb => by
  simp at hb
  rcases hb with rfl | rfl <;> omega)
 simp only [List.flatten_cons, List.flatten_nil, List.append_nil] at c3
 exact tr [.newr false true _ _ _ _ _ c1 (byL_k _), .newr false true _ _ _ _ _ c2 (byL_k _), cl c3] (by kernel_rfl)
open Classical in
/-- The rational number that two integers stand for. -/
noncomputable def prQ (p : Int × Int) : Option Rat := if h : ∃ r : Rat, r.num = p.1 ∧ dq r = p.2 then some h.choose else none
theorem prQ_ok (r : Rat) : prQ (r.num, dq r) = some r := by
 have h : ∃ t : Rat, t.num = (r.num, dq r).1 ∧ dq t = (r.num, dq r).2 := ⟨r, rfl, rfl⟩
 unfold prQ
 rw [dif_pos h]
 obtain ⟨q1, q2⟩ := h.choose_spec
 generalize h.choose = t at q1 q2
 rw [dq_inj (r := t) (t := r) q1 q2]
theorem prQ_no {p : Int × Int} (h : ∀ r : Rat, r.num = p.1 → dq r ≠ p.2) : prQ p = none := by
 unfold prQ
 rw [dif_neg]
 rintro ⟨r, h1, h2⟩
 exact h r h1 h2
noncomputable def decQ : List UInt8 → Rat × Nat × Int := W.dM (W.dP decZ decZ) prQ
def VQ (r : Rat) : Prop := VZ r.num ∧ VZ (dq r)
theorem codecQ : W.Codec encQ decQ VQ := W.codecM (g := fun r : Rat => (r.num, dq r)) (W.codecP codecZ codecZ) (fun r h => ⟨h, prQ_ok r⟩) fun p r hp hx => by
 unfold prQ at hx
 split at hx
 · rename_i h
   injection hx with hx
   obtain ⟨q1, q2⟩ := h.choose_spec
   rw [hx] at q1 q2
   exact ⟨Prod.ext q1 q2, by unfold VQ; rw [q1, q2]; exact hp⟩
 · cases hx
theorem decQ_le (l : List UInt8) : (decQ l).2.1 ≤ l.length := W.dM_le (W.dP_le decZ_le decZ_le l)
theorem sgx {a b : Int} (h1 : digs a.natAbs = digs b.natAbs) (h2 : decide (a < 0) = decide (b < 0)) : a = b := by
 have := digs_inj h1
 have := decide_eq_decide.1 h2
 omega
/-- So many digits, so many bits. -/
theorem bd_dig {n : Nat} (h : (digs x.natAbs).length ≤ n) : I.Bd (30 * n) x := by
 have h1 := I.val_lt (digs_ok x.natAbs).1.1
 rw [(digs_ok x.natAbs).2] at h1
 have h2 : I.pw (digs x.natAbs).length ≤ I.pw n := I.pw_mono h
 have h3 : I.pw n ≤ ((2 ^ (30 * n) : Nat) : Int) := by
  unfold I.pw
  rw [Nat.pow_mul, show (1000000000 : Int) ^ n = ((1000000000 ^ n : Nat) : Int) from by rw [Int.natCast_pow]; rfl]
  exact Int.ofNat_le.2 (Nat.pow_le_pow_left (by decide) n)
 unfold I.Bd
 omega
def tuQ (r : Rat × Nat × Int) : V := .tu [.ag (dR r.1), ni (r.2.1 : Int), ni r.2.2]
theorem tuQ_0 (e : Int) : tuQ (default, 0, e) = .tu [.ag [bo false, .sl [], bo false, .sl []], ni 0, ni e] := by
 show V.tu [.ag (dR 0), _, _] = _
 rw [dR_0]; rfl
theorem bq_of {n : Nat} (h1 : (digs r.num.natAbs).length ≤ n) (h2 : (digs (dq r).natAbs).length ≤ n) : Bq (30 * n + 1) r := by
 refine ⟨(bd_dig h1).mono (by omega), ?_⟩
 by_cases h : r.den = 1
 · rw [h]
   show (1 : Int).natAbs < _
   have : 1 < 2 ^ (30 * n + 1) := Nat.one_lt_two_pow (by omega)
   exact this
 · have := (bd_dig (x := dq r) h2).mono (k := 30 * n + 1) (by omega)
   rwa [dq_more h] at this
theorem e_rdec (l : List UInt8) (hb : l.length ≤ 1000000) : Pure PP 76 [.sl (byL l)] (tuQ (decQ l)) := by
 obtain ⟨N, hN⟩ : ∃ N, N = 1000000 := ⟨_, rfl⟩
 have c := e_idec l hb
 have hle := decZ_le l
 have f1 := decZ_few l
 unfold decQ
 rcases hd : decZ l with ⟨x, p, e⟩
 rw [hd] at c hle f1
 simp only at hle f1
 by_cases he : e = 0
 · subst he
   have c2 := e_idec (l.drop p) (by rw [List.length_drop]; omega)
   have hle2 := decZ_le (l.drop p)
   have f2 := decZ_few (l.drop p)
   rw [List.length_drop] at hle2 f2
   rcases hd2 : decZ (l.drop p) with ⟨y, q, e2⟩
   rw [hd2] at c2 hle2 f2
   simp only at hle2 f2
   by_cases he2 : e2 = 0
   · subst he2
     have hP : W.dP decZ decZ l = ((x, y), p + q, 0) := by
      rw [W.dP_0 (by rw [hd]) (by rw [hd]; simp only; rw [hd2])]
      rw [hd]; simp only; rw [hd2]
     have ad : F_ := wq 41 ((p : Int) + (q : Int)) ((p + q : Nat) : Int) (by omega)
     by_cases hr : ∃ r : Rat, r.num = x ∧ dq r = y
     · obtain ⟨r, rfl, rfl⟩ := hr
       rw [W.dM_0 (y := r) (by rw [hP]) (by rw [hP]; exact prQ_ok r), hP]
       have v := e_rvalid (r := r) (bq_of (n := N) (by omega) (by omega)) (by omega)
       exact tr [cl c, nf, slD l p hle, cl c2, nf, cl v, yt, wq 41 ((p : Int) + (q : Int)) ((p + q : Nat) : Int) (by omega)] (by kernel_rfl)
     · rw [W.dM_2 (by rw [hP]) (by rw [hP]; exact prQ_no fun r h1 h2 => hr ⟨r, h1, h2⟩), tuQ_0]
       have v := e_rvalid_no (n := ⟨decide (x < 0), digs x.natAbs, decide (y < 0), digs y.natAbs⟩) (k := 30 * N) (fun ⟨r, h⟩ => by
        unfold ofR at h
        simp only [RN.mk.injEq] at h
        exact hr ⟨r, (sgx h.2.1 h.1).symm, (sgx h.2.2.2 h.2.2.1).symm⟩) ⟨fun _ => by
         have := bd_dig (x := x) (n := N) (by omega)
         unfold I.Bd at this ⊢
         rw [(digs_ok _).2]
         simpa using this, fun _ => by
         have := bd_dig (x := y) (n := N) (by omega)
         unfold I.Bd at this ⊢
         rw [(digs_ok _).2]
         simpa using this⟩ (by omega)
       exact tr [cl c, nf, slD l p hle, cl c2, nf, cl v, nf] (by kernel_rfl)
   · rw [W.dM_1 (by rw [W.dP_2 (by rw [hd]) (by rw [hd]; simp only; rw [hd2]; exact he2)]; rw [hd]; simp only; rw [hd2]; exact he2), W.dP_2 (by rw [hd]) (by rw [hd]; simp only; rw [hd2]; exact he2), hd]
     simp only
     rw [hd2, tuQ_0]
     exact tr [cl c, nf, slD l p hle, cl c2, ye (t := e2 != 0) (by simpa using he2)] (by kernel_rfl)
 · rw [W.dM_1 (by rw [W.dP_1 (by rw [hd]; exact he), hd]; exact he), W.dP_1 (by rw [hd]; exact he), hd, tuQ_0]
   exact tr [cl c, ye (t := e != 0) (by simpa using he)] (by kernel_rfl)
noncomputable abbrev fFw : Func := fnOf PP 28
theorem e_few1 (l : List UInt8) (k : Nat) (hk : k ≤ 1000000) : Pure PP 28 [.sl (byL l), ni k] (.o 5 1 (byL (l.take k))) := by
 refine pf (by kernel_rfl) (.to mo_ [.ow 5 (.rw 5 1 [])] [0, 1, 5] [0] 1 [] (td' := rg fFw 2) (σ' := at_ fFw [(0, .sl (byL l)), (1, ni k), (5, .ow 0)] [.rw 5 1 []]) ?_ (by kernel_rfl))
 have hs : ((byL l).take (min l.length k)).drop 0 = byL (l.take k) := by
  rw [List.drop_zero, byL_take]
  congr 1
  rcases Nat.le_total l.length k with h | h
  · rw [Nat.min_eq_left h, List.take_of_length_le (Nat.le_refl _), List.take_of_length_le h]
  · rw [Nat.min_eq_right h]
 have hlen : (l.take k).length ≤ k := by rw [List.length_take]; omega
 let q : F_ := .eqv 11 (ni (if (k : Int) < (l.length : Int) then (k : Int) else (l.length : Int))) (ni ((min l.length k : Nat) : Int)) (by
  congr 1
  split <;> omega)
 by_cases h : l.take k = []
 · rw [h] at hs ⊢
   exact fi [lnq 9 l, q, .slc (byL l) 0 (min l.length k) 1 [] hs (by rw [byL_len]; omega) (byL_z _), .ape [] rfl] (by kernel_rfl) (by kernel_rfl)
 · exact fi [lnq 9 l, q, .slc (byL l) 0 (min l.length k) 1 (byL (l.take k)) hs (by rw [byL_len]; omega) (byL_z _), .aps [] (byL (l.take k)) (byL (l.take k)) 1000000 1 rfl (by rw [byL_len]; exact List.length_pos_iff.2 h) (by rw [byL_len]; omega) (byL_ok _)] (by kernel_rfl) (by kernel_rfl)
end
end Go.Proofs.YtmhliomemdhmiaaGreatDoor.E
namespace Go.Proofs.YtmhliomemdhmiaaGreatDoor.E.Ca
open Go.RowKit
set_option linter.unusedVariables false
set_option linter.unusedSimpArgs false
def flatR (l : List (Int × Int)) : List Int := l.flatMap fun p => [p.1, p.2]
def hdQ (c : CQ) : List Int := [c.by_, c.seq, c.tick, c.kind, c.w]
def encC (c : CQ) : List UInt8 := W.encI (hdQ c) ++ (W.encI (flatR c.refs) ++ (W.encI c.fit.wh ++ c.fit.qs.flatMap encQ))
/-- Few digits. -/
def Fs (r : Rat) : Prop := (digs r.num.natAbs).length ≤ 100 ∧ (digs (dq r).natAbs).length ≤ 100
theorem Fs.fq {r : Rat} (h : Fs r) : Fq r := ⟨by have := h.1; omega, by have := h.2; omega⟩
theorem Fs.len {r : Rat} (h : Fs r) : 2 ≤ (encQ r).length ∧ (encQ r).length ≤ 1836 := by
 have h1 := encZ_len r.num
 have h2 := encZ_len (dq r)
 obtain ⟨h3, h4⟩ := h
 unfold encQ
 rw [List.length_append]
 omega
structure Sq (c : CQ) : Prop where
 h : ∀ x ∈ hdQ c, W.Is64 x
 r : ∀ p ∈ c.refs, W.Is64 p.1 ∧ W.Is64 p.2
 f : ∀ x ∈ c.fit.wh, W.Is64 x
 q : ∀ r ∈ c.fit.qs, Fs r
 n : c.refs.length ≤ 20
section
variable {c : CQ} {l : List (Int × Int)} {i : Nat}
theorem flatR_len (l : List (Int × Int)) : (flatR l).length = 2 * l.length := by
 unfold flatR
 induction l with
 | nil => rfl
 | cons p r ih => rw [List.flatMap_cons, List.length_append, ih]; simp; omega
theorem flatR_mem {x : Int} (h : x ∈ flatR l) : ∃ p ∈ l, x = p.1 ∨ x = p.2 := by
 obtain ⟨p, hp, hx⟩ := List.mem_flatMap.1 h
 simp at hx
 exact ⟨p, hp, hx⟩
theorem flatR_next {p : Int × Int} (h : l[i]? = some p) : flatR (l.take (i + 1)) = flatR (l.take i) ++ [p.1, p.2] := by
 unfold flatR
 rw [List.take_add_one, h, List.flatMap_append]
 simp
theorem rfs_at {p : Int × Int} (h : l[i]? = some p) : (rfs l)[i]? = some (E.nm p) := by unfold rfs; rw [List.getElem?_map, h]; rfl
theorem Sq.r64 (h : Sq c) : ∀ x ∈ flatR c.refs, W.Is64 x := fun x hx => by
 obtain ⟨p, hp, hx⟩ := flatR_mem hx
 rcases hx with rfl | rfl
 · exact (h.r p hp).1
 · exact (h.r p hp).2
theorem wlW (l : List Int) (hl : ∀ x ∈ l, W.Is64 x) (hb : l.length ≤ 100) : 0 < (W.encI l).length ∧ (W.encI l).length ≤ 909 := by
 have h1 := W.encI_le l
 have h2 := (W.enc_le (l.length : Int)).1
 refine ⟨by unfold W.encI; rw [List.length_append]; omega, by omega⟩
/-- The first three lists. -/
def enc3 (c : CQ) : List UInt8 := W.encI (hdQ c) ++ (W.encI (flatR c.refs) ++ W.encI c.fit.wh)
theorem encC_3 (c : CQ) : encC c = enc3 c ++ c.fit.qs.flatMap encQ := by unfold encC enc3; simp [List.append_assoc]
theorem enc3_len (h : Sq c) : 0 < (enc3 c).length ∧ (enc3 c).length ≤ 2727 := by
 have h1 := wlW (hdQ c) h.h (Nat.le_of_ble_eq_true rfl)
 have h2 := wlW (flatR c.refs) h.r64 (by rw [flatR_len]; have := h.n; omega)
 have h3 := wlW c.fit.wh h.f (Nat.le_of_ble_eq_true rfl)
 unfold enc3
 rw [List.length_append, List.length_append]
 omega
noncomputable abbrev fEn : Func := fnOf PP 26
theorem e_cenc (h : Sq c) : Pure PP 26 [.ag (dQ c)] (.o 5 1 (byL (encC c))) := by
 have hn := h.n
 have hr := h.r64
 have hrl := flatR_len c.refs
 have h3 := enc3_len h
 have e3 := encC_3 c
 have l1 := wlW (hdQ c) h.h (Nat.le_of_ble_eq_true rfl)
 have l2 := wlW (flatR c.refs) h.r64 (by omega)
 have l3 := wlW c.fit.wh h.f (Nat.le_of_ble_eq_true rfl)
 have cc := e_concatB (ls := [W.encI (hdQ c), W.encI (flatR c.refs), W.encI c.fit.wh]) (by simp; omega) (by simp; omega) (by simp) (fun b hb => by
  simp at hb
  rcases hb with rfl | rfl | rfl <;> omega)
 simp only [List.flatten_cons, List.flatten_nil, List.append_nil] at cc
 have q0 := h.q c.fit.r0 (by simp [FQ.qs]); have q1 := h.q c.fit.r1 (by simp [FQ.qs]); have q2 := h.q c.fit.r2 (by simp [FQ.qs]); have q3 := h.q c.fit.r3 (by simp [FQ.qs]); have q4 := h.q c.fit.r4 (by simp [FQ.qs]); have q5 := h.q c.fit.r5 (by simp [FQ.qs])
 have n0 := q0.len; have n1 := q1.len; have n2 := q2.len; have n3 := q3.len; have n4 := q4.len; have n5 := q5.len
 let X : Nat → St := fun i => at_ fEn [(1, .lp 0 0), (3, .sl (byL (W.encI (hdQ c)))), (4, .ow 2), (23, .sl (rfs c.refs)), (24, ni ((rfs c.refs).length : Int)), (25, ni i)] [.bx 37 (dQ c), .dead, .rw 3 1 (zs (flatR (c.refs.take i)))]
 let P : Nat → List UInt8 := fun i => enc3 c ++ (c.fit.qs.take i).flatMap encQ
 let Y : Nat → St := fun i => at_ fEn [(3, .ow 5), (49, .ag (nuV c.fit.fm)), (50, ni i)] [.dead, .dead, .dead, .dead, .dead, .rw 5 1 (byL (P i))]
 have p1 : P 1 = P 0 ++ encQ c.fit.r0 := by simp [P, FQ.qs]
 have p2 : P 2 = P 1 ++ encQ c.fit.r1 := by simp [P, FQ.qs]
 have p3 : P 3 = P 2 ++ encQ c.fit.r2 := by simp [P, FQ.qs]
 have p4 : P 4 = P 3 ++ encQ c.fit.r3 := by simp [P, FQ.qs]
 have p5 : P 5 = P 4 ++ encQ c.fit.r4 := by simp [P, FQ.qs]
 have p6 : P 6 = P 5 ++ encQ c.fit.r5 := by simp [P, FQ.qs]
 have pe : P 6 = encC c := by rw [e3]; rfl
 have pz : W.encI (hdQ c) ++ (W.encI (flatR c.refs) ++ W.encI c.fit.wh) = P 0 := by simp [P, enc3]
 rw [pz] at cc
 have pl0 : (P 0).length = (enc3 c).length := by simp [P]
 have pl1 : (P 1).length = (P 0).length + (encQ c.fit.r0).length := by rw [p1, List.length_append]
 have pl2 : (P 2).length = (P 1).length + (encQ c.fit.r1).length := by rw [p2, List.length_append]
 have pl3 : (P 3).length = (P 2).length + (encQ c.fit.r2).length := by rw [p3, List.length_append]
 have pl4 : (P 4).length = (P 3).length + (encQ c.fit.r3).length := by rw [p4, List.length_append]
 have pl5 : (P 5).length = (P 4).length + (encQ c.fit.r4).length := by rw [p5, List.length_append]
 have pl6 : (P 6).length = (P 5).length + (encQ c.fit.r5).length := by rw [p6, List.length_append]
 refine pf (by kernel_rfl) (.to mo_ [.ow 4 (.rw 3 1 [])] [1, 3, 4, 23, 24, 25] [0, 2] 3 [.newr false true _ _ _ _ _ (e_wints h.h (Nat.le_of_ble_eq_true rfl)) (byL_k _)] (td' := lp fEn 0) (σ' := X 0) ?_ (by kernel_rfl))
 refine Gd.loop X (fun i => i ≤ c.refs.length) (fun i => c.refs.length - i) ?_ 0 (Nat.zero_le _)
 intro i hi ih
 by_cases hlt : i < c.refs.length
 · obtain ⟨p, hp, _⟩ := get_of hlt
   have hnx := flatR_next hp
   have hl2 := flatR_len (c.refs.take (i + 1))
   rw [List.length_take] at hl2
   exact .to mo_ [.mv 2 5] [1, 3, 4, 23, 24, 25] [0, 2] 3 [ye (t := decide ((i : Int) < ((rfs c.refs).length : Int))) (decide_eq_true (by rw [rfs_len]; omega)), .sel _ _ _ (rfs_at hp), .app (zs (flatR (c.refs.take i))) (zs [p.1, p.2]) (zs (flatR (c.refs.take (i + 1)))) 1000 (by rw [hnx, zs_app]) (Nat.zero_lt_succ _) (by rw [zs_len]; omega), inc 36 i (by omega)] (ih (i + 1) hlt (by omega)) (by kernel_rfl)
 · have hi2 : i = c.refs.length := by omega
   subst hi2
   have ht : c.refs.take c.refs.length = c.refs := List.take_length
   have hX : X c.refs.length = at_ fEn [(1, .lp 0 0), (3, .sl (byL (W.encI (hdQ c)))), (4, .ow 2), (23, .sl (rfs c.refs)), (24, ni ((rfs c.refs).length : Int)), (25, ni (c.refs.length : Nat))] [.bx 37 (dQ c), .dead, .rw 3 1 (zs (flatR c.refs))] := by simp only [X]; rw [ht]
   rw [hX]
   refine .to mo_ [] [3, 49, 50] [5] 6 [na (t := decide ((c.refs.length : Int) < ((rfs c.refs).length : Int))) (decide_eq_false (by rw [rfs_len]; omega)), cl (e_whole c.fit.fm), .newr false true _ _ _ _ _ (e_wints hr (by omega)) (byL_k _), .arr, .newr false true _ _ _ _ _ (e_wints h.f (Nat.le_of_ble_eq_true rfl)) (byL_k _), cl cc, cl (e_numbersC c.fit.fm)] (td' := lp fEn 1) (σ' := Y 0) ?_ (by kernel_rfl)
   refine .to mo_ [.mv 5 8] [3, 49, 50] [5] 6 [yt, cl (e_renc q0.fq), .app (byL (P 0)) (byL (encQ c.fit.r0)) (byL (P 1)) 100000 (by rw [byL_app, p1]) (by rw [byL_len]; omega) (by rw [byL_len]; omega)] (td' := lp fEn 1) (σ' := Y 1) ?_ (by kernel_rfl)
   refine .to mo_ [.mv 5 8] [3, 49, 50] [5] 6 [yt, cl (e_renc q1.fq), .app (byL (P 1)) (byL (encQ c.fit.r1)) (byL (P 2)) 100000 (by rw [byL_app, p2]) (by rw [byL_len]; omega) (by rw [byL_len]; omega)] (td' := lp fEn 1) (σ' := Y 2) ?_ (by kernel_rfl)
   refine .to mo_ [.mv 5 8] [3, 49, 50] [5] 6 [yt, cl (e_renc q2.fq), .app (byL (P 2)) (byL (encQ c.fit.r2)) (byL (P 3)) 100000 (by rw [byL_app, p3]) (by rw [byL_len]; omega) (by rw [byL_len]; omega)] (td' := lp fEn 1) (σ' := Y 3) ?_ (by kernel_rfl)
   refine .to mo_ [.mv 5 8] [3, 49, 50] [5] 6 [yt, cl (e_renc q3.fq), .app (byL (P 3)) (byL (encQ c.fit.r3)) (byL (P 4)) 100000 (by rw [byL_app, p4]) (by rw [byL_len]; omega) (by rw [byL_len]; omega)] (td' := lp fEn 1) (σ' := Y 4) ?_ (by kernel_rfl)
   refine .to mo_ [.mv 5 8] [3, 49, 50] [5] 6 [yt, cl (e_renc q4.fq), .app (byL (P 4)) (byL (encQ c.fit.r4)) (byL (P 5)) 100000 (by rw [byL_app, p5]) (by rw [byL_len]; omega) (by rw [byL_len]; omega)] (td' := lp fEn 1) (σ' := Y 5) ?_ (by kernel_rfl)
   refine .to mo_ [.mv 5 8] [3, 49, 50] [5] 6 [yt, cl (e_renc q5.fq), .app (byL (P 5)) (byL (encQ c.fit.r5)) (byL (P 6)) 100000 (by rw [byL_app, p6]) (by rw [byL_len]; omega) (by rw [byL_len]; omega)] (td' := lp fEn 1) (σ' := Y 6) ?_ (by kernel_rfl)
   rw [← pe]
   exact fi [nf] (by kernel_rfl) (by kernel_rfl)
end
end Go.Proofs.YtmhliomemdhmiaaGreatDoor.E.Ca
namespace Go.Proofs.YtmhliomemdhmiaaGreatDoor.W
open Go.RowKit
section
variable {α : Type} {e : α → List UInt8} {d : List UInt8 → α × Nat × Int} {V : α → Prop}
/-- So many elements. -/
def dN (d : List UInt8 → α × Nat × Int) (k : Nat) (b : List UInt8) : List α × Nat × Int := seqD d b k 0 []
theorem codecN (h : Codec e d V) (k : Nat) (hk : 0 < k) : Codec (fun l : List α => l.flatMap e) (dN d k) (fun l => l.length = k ∧ ∀ x ∈ l, V x) where
  back := fun l hl t => by
    have := seqD_back h l [] t [] hl.2
    rw [List.nil_append, List.nil_append, List.length_nil, Nat.zero_add, hl.1] at this
    exact this
  canon := fun b he => by
    obtain ⟨l', i1, i2, i3, i4, i5, i6⟩ := seqD_canon h b k 0 [] (Nat.zero_le _) he
    rw [List.nil_append] at i1
    unfold dN
    rw [i1]
    refine ⟨⟨i2, i3⟩, i5, ?_⟩
    rw [i4, Nat.zero_add]
    simpa using i6
  short := fun l hl i hi => by
    have := seqD_short h l [] i [] hl.2 hi
    rw [List.nil_append, List.length_nil, hl.1] at this
    exact this
  pos := fun l hl => by
    have := flat_len h l hl.2
    omega
/-- A list of so many numbers; of an even number. -/
def dL (k : Nat) : List UInt8 → List Int × Nat × Int := dM decI fun l => if l.length = k then some l else none
def dEv : List UInt8 → List Int × Nat × Int := dM decI fun l => if l.length % 2 = 0 then some l else none
theorem codecL (k : Nat) : Codec encI (dL k) (fun l => VI l ∧ l.length = k) := codecM (g := id) codecI (fun y h => ⟨h.1, by simp [h.2]⟩) fun x y hx h => by
  by_cases hk : x.length = k
  · rw [if_pos hk] at h; injection h with h; subst h; exact ⟨rfl, hx, hk⟩
  · rw [if_neg hk] at h; cases h
theorem codecEv : Codec encI dEv (fun l => VI l ∧ l.length % 2 = 0) := codecM (g := id) codecI (fun y h => ⟨h.1, by simp [h.2]⟩) fun x y hx h => by
  by_cases hk : x.length % 2 = 0
  · rw [if_pos hk] at h; injection h with h; subst h; exact ⟨rfl, hx, hk⟩
  · rw [if_neg hk] at h; cases h
theorem dL_e (k : Nat) {l : List UInt8} {A : List Int} {a : Nat} {er : Int} (h : decI l = (A, a, er)) (he : er ≠ 0) : dL k l = ([], 0, er) := by unfold dL; rw [dM_1 (by rw [h]; exact he), h]; rfl
theorem dL_n (k : Nat) {l : List UInt8} {A : List Int} {a : Nat} (h : decI l = (A, a, 0)) (hk : A.length ≠ k) : dL k l = ([], 0, 2) := by unfold dL; rw [dM_2 (by rw [h]) (by rw [h]; exact if_neg hk)]; rfl
theorem dL_0 (k : Nat) {l : List UInt8} {A : List Int} {a : Nat} (h : decI l = (A, a, 0)) (hk : A.length = k) : dL k l = (A, a, 0) := by unfold dL; rw [dM_0 (y := A) (by rw [h]) (by rw [h]; exact if_pos hk), h]
theorem dEv_e {l : List UInt8} {A : List Int} {a : Nat} {er : Int} (h : decI l = (A, a, er)) (he : er ≠ 0) : dEv l = ([], 0, er) := by unfold dEv; rw [dM_1 (by rw [h]; exact he), h]; rfl
theorem dEv_n {l : List UInt8} {A : List Int} {a : Nat} (h : decI l = (A, a, 0)) (hk : A.length % 2 ≠ 0) : dEv l = ([], 0, 2) := by unfold dEv; rw [dM_2 (by rw [h]) (by rw [h]; exact if_neg hk)]; rfl
theorem dEv_0 {l : List UInt8} {A : List Int} {a : Nat} (h : decI l = (A, a, 0)) (hk : A.length % 2 = 0) : dEv l = (A, a, 0) := by unfold dEv; rw [dM_0 (y := A) (by rw [h]) (by rw [h]; exact if_pos hk), h]
end
end Go.Proofs.YtmhliomemdhmiaaGreatDoor.W
namespace Go.Proofs.YtmhliomemdhmiaaGreatDoor.E.Ca
open Go.RowKit
set_option linter.unusedVariables false
set_option linter.unusedSimpArgs false
/-- Numbers in pairs. -/
def pairs : List Int → List (Int × Int)
 | a :: b :: r => (a, b) :: pairs r
 | _ => []
theorem pairs_flat : ∀ l : List (Int × Int), pairs (flatR l) = l
 | [] => rfl
 | p :: r => by
  have ih := pairs_flat r
  show pairs (p.1 :: p.2 :: flatR r) = _
  rw [pairs, ih]
theorem flat_pairs : ∀ l : List Int, l.length % 2 = 0 → flatR (pairs l) = l
 | [], _ => rfl
 | [a], h => by simp at h
 | a :: b :: r, h => by
  have ih := flat_pairs r (by simp at h; omega)
  show flatR ((a, b) :: pairs r) = _
  unfold flatR at ih ⊢
  rw [List.flatMap_cons, ih]
  rfl
instance : Inhabited CQ := ⟨⟨0, 0, 0, 0, [], zQ, 0⟩⟩
def mkC (x : List Int × List Int × List Int × List Rat) : CQ := ⟨x.1.getD 0 0, x.1.getD 1 0, x.1.getD 2 0, x.1.getD 3 0, pairs x.2.1, ⟨x.2.2.1.getD 0 0, x.2.2.1.getD 1 0, x.2.2.1.getD 2 0, x.2.2.1.getD 3 0, x.2.2.1.getD 4 0, x.2.2.2.getD 0 0, x.2.2.2.getD 1 0, x.2.2.2.getD 2 0, x.2.2.2.getD 3 0, x.2.2.2.getD 4 0, x.2.2.2.getD 5 0⟩, x.1.getD 4 0⟩
noncomputable def dC4 : List UInt8 → (List Int × List Int × List Int × List Rat) × Nat × Int := W.dP (W.dL 5) (W.dP W.dEv (W.dP (W.dL 5) (W.dN decQ 6)))
noncomputable def decC : List UInt8 → CQ × Nat × Int := W.dM dC4 fun x => some (mkC x)
def VC (c : CQ) : Prop := W.VI (hdQ c) ∧ W.VI (flatR c.refs) ∧ W.VI c.fit.wh ∧ ∀ r ∈ c.fit.qs, VQ r
def gC (c : CQ) : List Int × List Int × List Int × List Rat := (hdQ c, flatR c.refs, c.fit.wh, c.fit.qs)
theorem mkC_g (c : CQ) : mkC (gC c) = c := by
 obtain ⟨b, s, t, k, r, ⟨f1, f2, f3, f4, f5, r0, r1, r2, r3, r4, r5⟩, w⟩ := c
 simp only [mkC, gC, hdQ, FQ.wh, FQ.qs, pairs_flat]
 rfl
theorem list5 {l : List Int} (h : l.length = 5) : l = [l.getD 0 0, l.getD 1 0, l.getD 2 0, l.getD 3 0, l.getD 4 0] := by
 match l, h with
 | [a, b, c, d, e], _ => rfl
theorem list6 {l : List Rat} (h : l.length = 6) : l = [l.getD 0 0, l.getD 1 0, l.getD 2 0, l.getD 3 0, l.getD 4 0, l.getD 5 0] := by
 match l, h with
 | [a, b, c, d, e, f], _ => rfl
theorem codecC : W.Codec encC decC VC := W.codecM (g := gC) (W.codecP (W.codecL 5) (W.codecP W.codecEv (W.codecP (W.codecL 5) (W.codecN codecQ 6 (by decide))))) (fun c h => ⟨⟨⟨h.1, rfl⟩, ⟨h.2.1, by show (flatR c.refs).length % 2 = 0; rw [flatR_len]; omega⟩, ⟨h.2.2.1, rfl⟩, rfl, h.2.2.2⟩, by rw [mkC_g]⟩) fun x c hx h => by
 injection h with h
 subst h
 obtain ⟨⟨v1, n1⟩, ⟨v2, n2⟩, ⟨v3, n3⟩, n4, v4⟩ := hx
 obtain ⟨A, E, F, Q⟩ := x
 simp only at v1 n1 v2 n2 v3 n3 n4 v4
 have e1 : hdQ (mkC (A, E, F, Q)) = A := (list5 n1).symm
 have e2 : flatR (mkC (A, E, F, Q)).refs = E := flat_pairs E n2
 have e3 : (mkC (A, E, F, Q)).fit.wh = F := (list5 n3).symm
 have e4 : (mkC (A, E, F, Q)).fit.qs = Q := (list6 n4).symm
 refine ⟨by unfold gC; rw [e1, e2, e3, e4], ?_⟩
 unfold VC
 rw [e1, e2, e3, e4]
 exact ⟨v1, v2, v3, v4⟩
def tuC (r : CQ × Nat × Int) : V := .tu [.ag (dQ r.1), ni (r.2.1 : Int), ni r.2.2]
def zrC : List V := [ni 0, ni 0, ni 0, ni 0, .sl [], ni 0, ni 0, ni 0, ni 0, ni 0, bo false, .sl [], bo false, .sl [], bo false, .sl [], bo false, .sl [], bo false, .sl [], bo false, .sl [], bo false, .sl [], bo false, .sl [], bo false, .sl [], bo false, .sl [], bo false, .sl [], bo false, .sl [], ni 0]
theorem zrC_eq : dQ default = zrC := by
 show dC (CQ.cm ⟨0, 0, 0, 0, [], zQ, 0⟩) = _
 unfold CQ.cm
 simp only [zQ_fm]
 rfl
theorem tuC_0 (e : Int) : tuC (default, 0, e) = .tu [.ag zrC, ni 0, ni e] := by
 show V.tu [.ag (dQ default), _, _] = _
 rw [zrC_eq]; rfl
section
variable {l : List UInt8} {A E F : List Int} {Q : List Rat} {a b c d : Nat} {er : Int}
theorem decC_e {x : List Int × List Int × List Int × List Rat} {n : Nat} (h : dC4 l = (x, n, er)) (he : er ≠ 0) : decC l = (default, 0, er) := by unfold decC; rw [W.dM_1 (by rw [h]; exact he), h]
theorem dP_1' {α β : Type} [Inhabited α] [Inhabited β] {d1 : List UInt8 → α × Nat × Int} {d2 : List UInt8 → β × Nat × Int} {x : α} {p : Nat} (h : d1 l = (x, p, er)) (he : er ≠ 0) : W.dP d1 d2 l = (default, 0, er) := by rw [W.dP_1 (by rw [h]; exact he), h]
theorem decC_1 (h : W.dL 5 l = (A, a, er)) (he : er ≠ 0) : decC l = (default, 0, er) := decC_e (dP_1' h he) he
theorem dP_2' {α β : Type} [Inhabited α] [Inhabited β] {d1 : List UInt8 → α × Nat × Int} {d2 : List UInt8 → β × Nat × Int} {x : α} {y : β} {p q : Nat} (h : d1 l = (x, p, 0)) (h2 : d2 (l.drop p) = (y, q, er)) (he : er ≠ 0) : W.dP d1 d2 l = (default, 0, er) := by
 rw [W.dP_2 (by rw [h]) (by rw [h]; simp only; rw [h2]; exact he), h]
 simp only
 rw [h2]
theorem dP_0' {α β : Type} [Inhabited α] [Inhabited β] {d1 : List UInt8 → α × Nat × Int} {d2 : List UInt8 → β × Nat × Int} {x : α} {y : β} {p q : Nat} (h : d1 l = (x, p, 0)) (h2 : d2 (l.drop p) = (y, q, 0)) : W.dP d1 d2 l = ((x, y), p + q, 0) := by
 rw [W.dP_0 (by rw [h]) (by rw [h]; simp only; rw [h2]), h]
 simp only
 rw [h2]
theorem decC_2 (h : W.dL 5 l = (A, a, 0)) (h2 : W.dEv (l.drop a) = (E, b, er)) (he : er ≠ 0) : decC l = (default, 0, er) := decC_e (dP_2' h (dP_1' h2 he) he) he
theorem decC_3 (h : W.dL 5 l = (A, a, 0)) (h2 : W.dEv (l.drop a) = (E, b, 0)) (h3 : W.dL 5 ((l.drop a).drop b) = (F, c, er)) (he : er ≠ 0) : decC l = (default, 0, er) := decC_e (dP_2' h (dP_2' h2 (dP_1' h3 he) he) he) he
theorem decC_4 (h : W.dL 5 l = (A, a, 0)) (h2 : W.dEv (l.drop a) = (E, b, 0)) (h3 : W.dL 5 ((l.drop a).drop b) = (F, c, 0)) (h4 : W.dN decQ 6 (((l.drop a).drop b).drop c) = (Q, d, er)) (he : er ≠ 0) : decC l = (default, 0, er) := decC_e (dP_2' h (dP_2' h2 (dP_2' h3 h4 he) he) he) he
theorem decC_0 (h : W.dL 5 l = (A, a, 0)) (h2 : W.dEv (l.drop a) = (E, b, 0)) (h3 : W.dL 5 ((l.drop a).drop b) = (F, c, 0)) (h4 : W.dN decQ 6 (((l.drop a).drop b).drop c) = (Q, d, 0)) : decC l = (mkC (A, E, F, Q), a + (b + (c + d)), 0) := by
 have h5 : dC4 l = ((A, E, F, Q), a + (b + (c + d)), 0) := dP_0' h (dP_0' h2 (dP_0' h3 h4))
 unfold decC
 rw [W.dM_0 (y := mkC (A, E, F, Q)) (by rw [h5]) (by rw [h5]), h5]
end
end Go.Proofs.YtmhliomemdhmiaaGreatDoor.E.Ca
