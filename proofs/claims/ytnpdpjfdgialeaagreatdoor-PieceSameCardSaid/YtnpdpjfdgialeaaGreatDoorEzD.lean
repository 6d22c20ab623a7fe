/-
 PIECE: Decode, where nothing is thrown: the parts.
-/
import Derived.Test.YtnpdpjfdgialeaaGreatDoorEtD
import Derived.Test.YtnpdpjfdgialeaaGreatDoorEpN
import Derived.Test.YtnpdpjfdgialeaaGreatDoorPlainX
namespace Go.Proofs.YtnpdpjfdgialeaaGreatDoor.E
open Go.RowKit
set_option linter.unusedVariables false
set_option linter.unusedSimpArgs false
theorem e_growB {n : Nat} (h : 0 < n ∧ n ≤ 100000) : Pure PP 62 [.nl, ni n] (.o 5 1 []) :=
 tr [na (t := decide ((n : Int) < 0)) (decide_eq_false (by omega)), .nil, .eqv 13 (ni (IntKind.i64.wrap (0 - 0))) (ni 0) rfl, wq 14 ((n : Int) - 0) (n : Int) (by omega), ye (t := decide ((n : Int) > 0)) (decide_eq_true (by omega)), .nil, .nil, .apz n (by omega), .trn (List.replicate n [.k (.int .u8 0)]) [] 0 rfl (Nat.zero_le _)] (by kernel_rfl)
noncomputable abbrev fcB : Func := fnOf PP 26
def rowsB (ls : List (List UInt8)) : List (List V) := ls.map fun b => [.sl (byL b)]
theorem e_concatB {ls : List (List UInt8)} (h0 : 0 < ls.flatten.length) (h1 : ls.flatten.length ≤ 100000) (hn : ls.length ≤ 1000) (hp : ∀ b ∈ ls, 0 < b.length) : Pure PP 26 [.sl (rowsB ls)] (.o 5 1 (byL ls.flatten)) := by
 have hl : (rowsB ls).length = ls.length := List.length_map ..
 have el : ∀ {i}, i < ls.length → (rowsB ls)[i]? = some [.sl (byL (ls.getD i []))] := fun {i} h => by
  unfold rowsB
  rw [List.getElem?_map, List.getD_eq_getElem?_getD, List.getElem?_eq_getElem h]; rfl
 have hx : ∀ {i}, i < ls.length → ls[i]? = some (ls.getD i []) := fun {i} h => by rw [List.getD_eq_getElem?_getD, List.getElem?_eq_getElem h]; rfl
 let S : Nat → List UInt8 := fun i => (ls.take i).flatten
 have hS : ∀ {i}, i < ls.length → S (i + 1) = S i ++ ls.getD i [] := fun {i} h => by simp only [S]; rw [List.take_add_one, hx h]; simp
 have hSl : ∀ i, (S i).length ≤ ls.flatten.length := fun i => by
  have : ls.flatten = S i ++ (ls.drop i).flatten := by simp only [S]; rw [← List.flatten_append, List.take_append_drop]
  rw [this, List.length_append]; omega
 have hSn : S ls.length = ls.flatten := by simp [S]
 let X : Nat → St := fun i => at_ fcB [(0, .sl (rowsB ls)), (3, ni ((S i).length : Int)), (9, .sl (rowsB ls)), (10, ni ((rowsB ls).length : Int)), (11, ni i)] []
 let Y : Nat → St := fun i => at_ fcB [(6, .ow 0), (25, .sl (rowsB ls)), (26, ni ((rowsB ls).length : Int)), (27, ni i)] [.rw 5 1 (byL (S i))]
 refine pf (by kernel_rfl) (.to mo_ [] [0, 3, 9, 10, 11] [] 0 [] (td' := lp fcB 0) (σ' := X 0) ?_ (by kernel_rfl))
 refine Gd.loop X (fun i => i ≤ ls.length) (fun i => ls.length - i) ?_ 0 (Nat.zero_le _)
 intro i hi ih
 by_cases h : i < ls.length
 · have e := el h
   have hs := hS h
   have h2 := hSl (i + 1)
   rw [hs, List.length_append] at h2
   exact .to mo_ [] [0, 3, 9, 10, 11] [] 0 [ye (t := decide ((i : Int) < ((rowsB ls).length : Int))) (decide_eq_true (by omega)), .sel _ _ _ e, .eqv 17 (ni ((byL (ls.getD i [])).length : Int)) (ni ((ls.getD i []).length : Int)) (by rw [byL_len]), wq 18 (((S i).length : Int) + ((ls.getD i []).length : Int)) ((S (i + 1)).length : Int) (by rw [hs, List.length_append]; omega), na (t := decide (((S (i + 1)).length : Int) < 0)) (decide_eq_false (by omega)), inc 22 i (by omega)] (ih (i + 1) h (by omega)) (by kernel_rfl)
 · have hi2 : i = ls.length := by omega
   subst hi2
   refine .to mo_ [] [6, 25, 26, 27] [0] 1 [na (t := decide ((ls.length : Int) < ((rowsB ls).length : Int))) (decide_eq_false (by omega)), .newr true false _ _ _ _ _ (e_growB (n := (S ls.length).length) (by rw [hSn]; exact ⟨h0, h1⟩)) (fun cs h => by cases h)] (td' := lp fcB 1) (σ' := Y 0) ?_ (by kernel_rfl)
   refine Gd.loop Y (fun i => i ≤ ls.length) (fun i => ls.length - i) ?_ 0 (Nat.zero_le _)
   intro i hi jh
   by_cases g : i < ls.length
   · have e := el g
     have hs := hS g
     have h2 := hSl (i + 1)
     have h3 := hp (ls.getD i []) (List.mem_of_getElem? (hx g))
     exact .to mo_ [.mv 0 1] [6, 25, 26, 27] [0] 1 [ye (t := decide ((i : Int) < ((rowsB ls).length : Int))) (decide_eq_true (by omega)), .sel _ _ _ e, .aps (byL (S i)) (byL (ls.getD i [])) (byL (S (i + 1))) 100000 1 (by rw [byL_app, hs]) (by rw [byL_len]; exact h3) (by rw [byL_len]; omega) (byL_ok _), inc 34 i (by omega)] (jh (i + 1) g (by omega)) (by kernel_rfl)
   · have hi3 : i = ls.length := by omega
     subst hi3
     rw [← hSn]
     exact fi [na (t := decide ((ls.length : Int) < ((rowsB ls).length : Int))) (decide_eq_false (by omega))] (by kernel_rfl) (by kernel_rfl)
section
variable {x y : Int} {k : Nat} {r : Rat}
def encQ (r : Rat) : List UInt8 := encZ r.num ++ encZ (dq r)
/-- Few digits. -/
def Fq (r : Rat) : Prop := (digs r.num.natAbs).length ≤ 4000 ∧ (digs (dq r).natAbs).length ≤ 4000
theorem encZ_len (x : Int) : 1 ≤ (encZ x).length ∧ (encZ x).length ≤ 18 + 9 * (digs x.natAbs).length := by
 unfold encZ
 have h1 := W.encI_le (znL x)
 have h2 := (W.enc_le ((znL x).length : Int)).1
 refine ⟨by unfold W.encI; rw [List.length_append]; omega, ?_⟩
 simp only [znL, List.length_cons] at h1 ⊢
 omega
theorem encQ_len (h : Fq r) : 2 ≤ (encQ r).length ∧ (encQ r).length ≤ 72036 := by
 have h1 := encZ_len r.num
 have h2 := encZ_len (dq r)
 obtain ⟨h3, h4⟩ := h
 unfold encQ
 rw [List.length_append]
 omega
theorem e_renc (h : Fq r) : Pure PP 29 [.ag (dR r)] (.o 5 1 (byL (encQ r))) := by
 have c1 := e_ienc (x := r.num) (by have := h.1; unfold Fz; omega)
 have c2 := e_ienc (x := dq r) (by have := h.2; unfold Fz; omega)
 have hl := encQ_len h
 have l1 := encZ_len r.num
 have l2 := encZ_len (dq r)
 have c3 := e_concatB (ls := [encZ r.num, encZ (dq r)]) (by simp; omega) (by unfold encQ at hl; simp at hl ⊢; omega) (by simp) (fun b hb => by
  simp at hb
  rcases hb with rfl | rfl <;> omega)
 simp only [List.flatten_cons, List.flatten_nil, List.append_nil] at c3
 exact tr [.newr false true _ _ _ _ _ c1 (byL_k _), .newr false true _ _ _ _ _ c2 (byL_k _), cl c3] (by kernel_rfl)
theorem e_renc4 (h : Fq r) : Pure PP 67 [.ag (dR r)] (.o 5 1 (byL (encQ r))) := by
 have c1 := e_ienc3 (x := r.num) (by have := h.1; unfold Fz; omega)
 have c2 := e_ienc3 (x := dq r) (by have := h.2; unfold Fz; omega)
 have hl := encQ_len h
 have l2 := encZ_len (dq r)
 exact tr [cl c1, cl c2, .app (byL (encZ r.num)) (byL (encZ (dq r))) (byL (encQ r)) 100000 (byL_app _ _) (by rw [byL_len]; omega) (by rw [byL_len]; omega)] (by kernel_rfl)
open Classical in
/-- The rational number that two integers stand for. -/
noncomputable def prQ (p : Int × Int) : Option Rat := if h : ∃ r : Rat, r.num = p.1 ∧ dq r = p.2 then some h.choose else none
theorem prQ_ok (r : Rat) : prQ (r.num, dq r) = some r := by
 have h : ∃ t : Rat, t.num = (r.num, dq r).1 ∧ dq t = (r.num, dq r).2 := ⟨r, rfl, rfl⟩
 unfold prQ
 rw [dif_pos h]
 obtain ⟨q1, q2⟩ := h.choose_spec
 generalize h.choose = t at q1 q2
 rw [dq_inj (r := t) (t := r) q1 q2]
theorem prQ_no {p : Int × Int} (h : ∀ r : Rat, r.num = p.1 → dq r ≠ p.2) : prQ p = none := by
 unfold prQ
 rw [dif_neg]
 rintro ⟨r, h1, h2⟩
 exact h r h1 h2
noncomputable def decQ : List UInt8 → Rat × Nat × Int := W.dM (W.dP decZ decZ) prQ
def VQ (r : Rat) : Prop := VZ r.num ∧ VZ (dq r)
theorem codecQ : W.Codec encQ decQ VQ := W.codecM (g := fun r : Rat => (r.num, dq r)) (W.codecP codecZ codecZ) (fun r h => ⟨h, prQ_ok r⟩) fun p r hp hx => by
 unfold prQ at hx
 split at hx
 · rename_i h
   injection hx with hx
   obtain ⟨q1, q2⟩ := h.choose_spec
   rw [hx] at q1 q2
   exact ⟨Prod.ext q1 q2, by unfold VQ; rw [q1, q2]; exact hp⟩
 · cases hx
theorem sgx {a b : Int} (h1 : digs a.natAbs = digs b.natAbs) (h2 : decide (a < 0) = decide (b < 0)) : a = b := by
 have := digs_inj h1
 have := decide_eq_decide.1 h2
 omega
/-- So many digits, so many bits. -/
theorem bd_dig {n : Nat} (h : (digs x.natAbs).length ≤ n) : I.Bd (30 * n) x := by
 have h1 := I.val_lt (digs_ok x.natAbs).1.1
 rw [(digs_ok x.natAbs).2] at h1
 have h2 : I.pw (digs x.natAbs).length ≤ I.pw n := I.pw_mono h
 have h3 : I.pw n ≤ ((2 ^ (30 * n) : Nat) : Int) := by
  unfold I.pw
  rw [Nat.pow_mul, show (1000000000 : Int) ^ n = ((1000000000 ^ n : Nat) : Int) from by rw [Int.natCast_pow]; rfl]
  exact Int.ofNat_le.2 (Nat.pow_le_pow_left (by decide) n)
 unfold I.Bd
 omega
def tuQ (r : Rat × Nat × Int) : V := .tu [.ag (dR r.1), ni (r.2.1 : Int), ni r.2.2]
theorem tuQ_0 (e : Int) : tuQ (default, 0, e) = .tu [.ag [bo false, .sl [], bo false, .sl []], ni 0, ni e] := by
 show V.tu [.ag (dR 0), _, _] = _
 rw [dR_0]; rfl
theorem bq_of {n : Nat} (h1 : (digs r.num.natAbs).length ≤ n) (h2 : (digs (dq r).natAbs).length ≤ n) : Bq (30 * n + 1) r := by
 refine ⟨(bd_dig h1).mono (by omega), ?_⟩
 by_cases h : r.den = 1
 · rw [h]
   show (1 : Int).natAbs < _
   have : 1 < 2 ^ (30 * n + 1) := Nat.one_lt_two_pow (by omega)
   exact this
 · have := (bd_dig (x := dq r) h2).mono (k := 30 * n + 1) (by omega)
   rwa [dq_more h] at this
theorem e_rdec (l : List UInt8) (hb : l.length ≤ 1000000) : Pure PP 128 [.sl (byL l)] (tuQ (decQ l)) := by
 obtain ⟨N, hN⟩ : ∃ N, N = 1000000 := ⟨_, rfl⟩
 have c := e_idec l hb
 have hle := decZ_le l
 have f1 := decZ_few l
 unfold decQ
 rcases hd : decZ l with ⟨x, p, e⟩
 rw [hd] at c hle f1
 simp only at hle f1
 by_cases he : e = 0
 · subst he
   have c2 := e_idec (l.drop p) (by rw [List.length_drop]; omega)
   have hle2 := decZ_le (l.drop p)
   have f2 := decZ_few (l.drop p)
   rw [List.length_drop] at hle2 f2
   rcases hd2 : decZ (l.drop p) with ⟨y, q, e2⟩
   rw [hd2] at c2 hle2 f2
   simp only at hle2 f2
   by_cases he2 : e2 = 0
   · subst he2
     have hP : W.dP decZ decZ l = ((x, y), p + q, 0) := by
      rw [W.dP_0 (by rw [hd]) (by rw [hd]; simp only; rw [hd2])]
      rw [hd]; simp only; rw [hd2]
     have ad : F_ := wq 41 ((p : Int) + (q : Int)) ((p + q : Nat) : Int) (by omega)
     by_cases hr : ∃ r : Rat, r.num = x ∧ dq r = y
     · obtain ⟨r, rfl, rfl⟩ := hr
       rw [W.dM_0 (y := r) (by rw [hP]) (by rw [hP]; exact prQ_ok r), hP]
       have v := e_rvalid (r := r) (bq_of (n := N) (by omega) (by omega)) (by omega)
       exact tr [cl c, nf, slD l p hle, cl c2, nf, cl v, yt, wq 41 ((p : Int) + (q : Int)) ((p + q : Nat) : Int) (by omega)] (by kernel_rfl)
     · rw [W.dM_2 (by rw [hP]) (by rw [hP]; exact prQ_no fun r h1 h2 => hr ⟨r, h1, h2⟩), tuQ_0]
       have v := e_rvalid_no (n := ⟨decide (x < 0), digs x.natAbs, decide (y < 0), digs y.natAbs⟩) (k := 30 * N) (fun ⟨r, h⟩ => by
        unfold ofR at h
        simp only [RN.mk.injEq] at h
        exact hr ⟨r, (sgx h.2.1 h.1).symm, (sgx h.2.2.2 h.2.2.1).symm⟩) ⟨fun _ => by
         have := bd_dig (x := x) (n := N) (by omega)
         unfold I.Bd at this ⊢
         rw [(digs_ok _).2]
         simpa using this, fun _ => by
         have := bd_dig (x := y) (n := N) (by omega)
         unfold I.Bd at this ⊢
         rw [(digs_ok _).2]
         simpa using this⟩ (by omega)
       exact tr [cl c, nf, slD l p hle, cl c2, nf, cl v, nf] (by kernel_rfl)
   · rw [W.dM_1 (by rw [W.dP_2 (by rw [hd]) (by rw [hd]; simp only; rw [hd2]; exact he2)]; rw [hd]; simp only; rw [hd2]; exact he2), W.dP_2 (by rw [hd]) (by rw [hd]; simp only; rw [hd2]; exact he2), hd]
     simp only
     rw [hd2, tuQ_0]
     exact tr [cl c, nf, slD l p hle, cl c2, ye (t := e2 != 0) (by simpa using he2)] (by kernel_rfl)
 · rw [W.dM_1 (by rw [W.dP_1 (by rw [hd]; exact he), hd]; exact he), W.dP_1 (by rw [hd]; exact he), hd, tuQ_0]
   exact tr [cl c, ye (t := e != 0) (by simpa using he)] (by kernel_rfl)
end
end Go.Proofs.YtnpdpjfdgialeaaGreatDoor.E
namespace Go.Proofs.YtnpdpjfdgialeaaGreatDoor.E.Pc
open Go.RowKit
set_option linter.unusedVariables false
set_option linter.unusedSimpArgs false
def crn (P : List (Int × Int)) : List Int := P.flatMap fun c => [c.1, c.2]
def wnI (l : List Bool) : List Int := l.map fun w => if w then 1 else 0
def numP (p : Ct.Pi) : List Rat := [p.tol, p.light, p.heavy, p.str, p.rough]
def hdP (p : Ct.Pi) : List UInt8 := W.encI [p.id, p.home] ++ (W.encI (crn p.rim) ++ (W.encI (wnI p.worn) ++ W.encI p.marks))
def encP (p : Ct.Pi) : List UInt8 := hdP p ++ (numP p).flatMap encQ
/-- Few digits. -/
def Fs (r : Rat) : Prop := (digs r.num.natAbs).length ≤ 1000 ∧ (digs (dq r).natAbs).length ≤ 1000
theorem Fs.fq {r : Rat} (h : Fs r) : Fq r := ⟨by have := h.1; omega, by have := h.2; omega⟩
theorem Fs.len {r : Rat} (h : Fs r) : 2 ≤ (encQ r).length ∧ (encQ r).length ≤ 18036 := by
 have h1 := encZ_len r.num
 have h2 := encZ_len (dq r)
 obtain ⟨h3, h4⟩ := h
 unfold encQ
 rw [List.length_append]
 omega
structure En (p : Ct.Pi) : Prop where
 id : W.Is64 p.id
 home : W.Is64 p.home
 r : ∀ c ∈ p.rim, W.Is64 c.1 ∧ W.Is64 c.2
 m : ∀ x ∈ p.marks, W.Is64 x
 nr : p.rim.length ≤ 40
 nw : p.worn.length ≤ 40
 nm : p.marks.length ≤ 40
 q : ∀ r ∈ numP p, Fs r
section
variable {p : Ct.Pi} {P : List (Int × Int)} {l : List Bool} {i : Nat}
theorem crn_len (P : List (Int × Int)) : (crn P).length = 2 * P.length := by
 unfold crn
 induction P with
 | nil => rfl
 | cons p r ih => rw [List.flatMap_cons, List.length_append, ih]; simp; omega
theorem crn_next {c : Int × Int} (h : P[i]? = some c) : crn (P.take (i + 1)) = crn (P.take i) ++ [c.1, c.2] := by
 unfold crn
 rw [List.take_add_one, h, List.flatMap_append]
 simp
theorem wnI_next {w : Bool} (h : l[i]? = some w) : wnI (l.take (i + 1)) = wnI (l.take i) ++ [if w then 1 else 0] := by
 unfold wnI
 rw [List.take_add_one, h, List.map_append]
 rfl
theorem wnI_len (l : List Bool) : (wnI l).length = l.length := List.length_map ..
theorem wn_at {w : Bool} (h : l[i]? = some w) : (Ct.wnR l)[i]? = some [bo w] := by unfold Ct.wnR; rw [List.getElem?_map, h]; rfl
theorem crn_64 (h : ∀ c ∈ P, W.Is64 c.1 ∧ W.Is64 c.2) : ∀ x ∈ crn P, W.Is64 x := fun x hx => by
 obtain ⟨c, hc, hx⟩ := List.mem_flatMap.1 hx
 simp at hx
 rcases hx with rfl | rfl
 · exact (h c hc).1
 · exact (h c hc).2
theorem wnI_64 : ∀ x ∈ wnI l, W.Is64 x := fun x hx => by
 obtain ⟨w, _, rfl⟩ := List.mem_map.1 hx
 cases w <;> exact ⟨by decide, by decide⟩
theorem wl_ (l : List Int) (hb : l.length ≤ 100) : 0 < (W.encI l).length ∧ (W.encI l).length ≤ 909 := by
 have h1 := W.encI_le l
 have h2 := (W.enc_le (l.length : Int)).1
 refine ⟨by unfold W.encI; rw [List.length_append]; omega, by omega⟩
theorem e_numbers (p : Ct.Pi) : Pure PP 28 [.ag p.v] (.ag (dR p.tol ++ (dR p.light ++ (dR p.heavy ++ (dR p.str ++ dR p.rough))))) := by
 have hv : p.v = [ni p.id, ni p.home, .sl (Ct.ptR p.rim), .sl (Ct.wnR p.worn), zl p.marks] ++ (dR p.tol ++ (dR p.light ++ (dR p.heavy ++ (dR p.str ++ dR p.rough)))) := rfl
 rw [hv]
 exact tr [] (by kernel_rfl)
noncomputable abbrev fEn : Func := fnOf PP 9
theorem e_penc (h : En p) : Pure PP 9 [.ag p.v] (.o 5 1 (byL (encP p))) := by
 have hv : p.v = [ni p.id, ni p.home, .sl (Ct.ptR p.rim), .sl (Ct.wnR p.worn), zl p.marks] ++ (dR p.tol ++ (dR p.light ++ (dR p.heavy ++ (dR p.str ++ dR p.rough)))) := rfl
 have hcl := crn_len p.rim
 have hwl := wnI_len p.worn
 have i1 : ∀ x ∈ [p.id, p.home], W.Is64 x := fun x hx => by
  simp at hx
  rcases hx with rfl | rfl
  · exact h.id
  · exact h.home
 have nr := h.nr
 have nw := h.nw
 have nm := h.nm
 have l1 := wl_ [p.id, p.home] (Nat.le_of_ble_eq_true rfl)
 have l2 := wl_ (crn p.rim) (by omega)
 have l3 := wl_ (wnI p.worn) (by omega)
 have l4 := wl_ p.marks (by omega)
 have cc := e_concatB (ls := [W.encI [p.id, p.home], W.encI (crn p.rim), W.encI (wnI p.worn), W.encI p.marks]) (by simp; omega) (by simp; omega) (by simp) (fun b hb => by
  simp at hb
  rcases hb with rfl | rfl | rfl | rfl <;> omega)
 simp only [List.flatten_cons, List.flatten_nil, List.append_nil] at cc
 have w1 := e_wints i1 (Nat.le_of_ble_eq_true rfl)
 have w2 := e_wints (crn_64 h.r) (by omega)
 have w3 := e_wints (wnI_64 (l := p.worn)) (by omega)
 have w4 := e_wints h.m (by omega)
 have q0 := h.q p.tol (by simp [numP]); have q1 := h.q p.light (by simp [numP]); have q2 := h.q p.heavy (by simp [numP]); have q3 := h.q p.str (by simp [numP]); have q4 := h.q p.rough (by simp [numP])
 have n0 := q0.len; have n1 := q1.len; have n2 := q2.len; have n3 := q3.len; have n4 := q4.len
 have lh : (hdP p).length ≤ 4000 := by unfold hdP; simp only [List.length_append]; omega
 let X : Nat → St := fun i => at_ fEn [(1, .ip p.v), (3, .ow 1), (4, .ow 2), (14, .sl (Ct.ptR p.rim)), (15, ni (p.rim.length : Int)), (16, ni i)] [.dead, .rw 3 1 (zs (crn (p.rim.take i))), .rw 3 1 []]
 let Z : Nat → St := fun i => at_ fEn [(1, .ip p.v), (3, .ow 1), (4, .ow 2), (29, .sl (Ct.wnR p.worn)), (30, ni (p.worn.length : Int)), (31, ni i)] [.dead, .rw 3 1 (zs (crn p.rim)), .rw 3 1 (zs (wnI (p.worn.take i)))]
 let Q : Nat → List UInt8 := fun i => hdP p ++ ((numP p).take i).flatMap encQ
 let Y : Nat → St := fun i => at_ fEn [(10, .ow 5), (57, .ag (dR p.tol ++ (dR p.light ++ (dR p.heavy ++ (dR p.str ++ dR p.rough))))), (58, ni i)] [.dead, .dead, .dead, .dead, .dead, .rw 5 1 (byL (Q i))]
 have p1 : Q 1 = Q 0 ++ encQ p.tol := by simp [Q, numP]
 have p2 : Q 2 = Q 1 ++ encQ p.light := by simp [Q, numP]
 have p3 : Q 3 = Q 2 ++ encQ p.heavy := by simp [Q, numP]
 have p4 : Q 4 = Q 3 ++ encQ p.str := by simp [Q, numP]
 have p5 : Q 5 = Q 4 ++ encQ p.rough := by simp [Q, numP]
 have pe : Q 5 = encP p := rfl
 have pz : W.encI [p.id, p.home] ++ (W.encI (crn p.rim) ++ (W.encI (wnI p.worn) ++ W.encI p.marks)) = Q 0 := by simp [Q, hdP]
 rw [pz] at cc
 have pl0 : (Q 0).length = (hdP p).length := by simp [Q]
 have pl1 : (Q 1).length = (Q 0).length + (encQ p.tol).length := by rw [p1, List.length_append]
 have pl2 : (Q 2).length = (Q 1).length + (encQ p.light).length := by rw [p2, List.length_append]
 have pl3 : (Q 3).length = (Q 2).length + (encQ p.heavy).length := by rw [p3, List.length_append]
 have pl4 : (Q 4).length = (Q 3).length + (encQ p.str).length := by rw [p4, List.length_append]
 have pl5 : (Q 5).length = (Q 4).length + (encQ p.rough).length := by rw [p5, List.length_append]
 have hpl : (Ct.ptR p.rim).length = p.rim.length := List.length_map ..
 have hwl2 : (Ct.wnR p.worn).length = p.worn.length := List.length_map ..
 refine pf (by kernel_rfl) (.to mo_ [.fz 1, .ow 3 (.rw 3 1 []), .ow 4 (.rw 3 1 [])] [1, 3, 4, 14, 15, 16] [1, 2] 3 [.eqv 15 (ni ((Ct.ptR p.rim).length : Int)) (ni (p.rim.length : Int)) (by rw [hpl])] (td' := lp fEn 0) (σ' := X 0) ?_ (by kernel_rfl))
 refine Gd.loop X (fun i => i ≤ p.rim.length) (fun i => p.rim.length - i) ?_ 0 (Nat.zero_le _)
 intro i hi ih
 by_cases g : i < p.rim.length
 · obtain ⟨c, hc, _⟩ := Ct.get_of g
   have hnx := crn_next hc
   have hl2 := crn_len (p.rim.take (i + 1))
   rw [List.length_take] at hl2
   exact .to mo_ [.mv 1 5] [1, 3, 4, 14, 15, 16] [1, 2] 3 [ye (t := decide ((i : Int) < (p.rim.length : Int))) (decide_eq_true (by omega)), .sel _ _ _ (Ct.pt_at hc), .app (zs (crn (p.rim.take i))) (zs [c.1, c.2]) (zs (crn (p.rim.take (i + 1)))) 1000 (by rw [hnx, zs_app]) (Nat.zero_lt_succ _) (by rw [zs_len]; omega), inc 27 i (by omega)] (ih (i + 1) g (by omega)) (by kernel_rfl)
 · have hi2 : i = p.rim.length := by omega
   subst hi2
   simp only [X]
   rw [List.take_length]
   refine .to mo_ [] [1, 3, 4, 29, 30, 31] [1, 2] 3 [na (t := decide ((p.rim.length : Int) < (p.rim.length : Int))) (decide_eq_false (by omega)), .eqv 30 (ni ((Ct.wnR p.worn).length : Int)) (ni (p.worn.length : Int)) (by rw [hwl2])] (td' := lp fEn 1) (σ' := Z 0) ?_ (by kernel_rfl)
   refine Gd.loop Z (fun i => i ≤ p.worn.length) (fun i => p.worn.length - i) ?_ 0 (Nat.zero_le _)
   intro i hi ih
   by_cases g : i < p.worn.length
   · obtain ⟨w, hw, _⟩ := Ct.get_of g
     have hnx := wnI_next hw
     have hl2 := wnI_len (p.worn.take (i + 1))
     rw [List.length_take] at hl2
     have nx := ih (i + 1) g (by omega)
     cases w with
     | true => exact .to mo_ [.mv 2 4] [1, 3, 4, 29, 30, 31] [1, 2] 3 [ye (t := decide ((i : Int) < (p.worn.length : Int))) (decide_eq_true (by omega)), .sel _ _ _ (wn_at hw), yt, .app (zs (wnI (p.worn.take i))) (zs [1]) (zs (wnI (p.worn.take (i + 1)))) 1000 (by rw [hnx, zs_app]; rfl) (Nat.zero_lt_succ _) (by rw [zs_len]; omega), inc 40 i (by omega)] nx (by kernel_rfl)
     | false => exact .to mo_ [.mv 2 4] [1, 3, 4, 29, 30, 31] [1, 2] 3 [ye (t := decide ((i : Int) < (p.worn.length : Int))) (decide_eq_true (by omega)), .sel _ _ _ (wn_at hw), nf, .app (zs (wnI (p.worn.take i))) (zs [0]) (zs (wnI (p.worn.take (i + 1)))) 1000 (by rw [hnx, zs_app]; rfl) (Nat.zero_lt_succ _) (by rw [zs_len]; omega), inc 40 i (by omega)] nx (by kernel_rfl)
   · have hi2 : i = p.worn.length := by omega
     subst hi2
     simp only [Z]
     rw [List.take_length]
     refine .to mo_ [] [10, 57, 58] [5] 6 [na (t := decide ((p.worn.length : Int) < (p.worn.length : Int))) (decide_eq_false (by omega)), .newr false true _ _ _ _ _ w1 (byL_k _), .newr false true _ _ _ _ _ w2 (byL_k _), .newr false true _ _ _ _ _ w3 (byL_k _), .newr false true _ _ _ _ _ w4 (byL_k _), cl cc, cl (e_numbers p)] (td' := lp fEn 2) (σ' := Y 0) ?_ (by kernel_rfl)
     refine .to mo_ [.mv 5 8] [10, 57, 58] [5] 6 [yt, cl (e_renc q0.fq), .app (byL (Q 0)) (byL (encQ p.tol)) (byL (Q 1)) 100000 (by rw [byL_app, p1]) (by rw [byL_len]; omega) (by rw [byL_len]; omega)] (td' := lp fEn 2) (σ' := Y 1) ?_ (by kernel_rfl)
     refine .to mo_ [.mv 5 8] [10, 57, 58] [5] 6 [yt, cl (e_renc q1.fq), .app (byL (Q 1)) (byL (encQ p.light)) (byL (Q 2)) 100000 (by rw [byL_app, p2]) (by rw [byL_len]; omega) (by rw [byL_len]; omega)] (td' := lp fEn 2) (σ' := Y 2) ?_ (by kernel_rfl)
     refine .to mo_ [.mv 5 8] [10, 57, 58] [5] 6 [yt, cl (e_renc q2.fq), .app (byL (Q 2)) (byL (encQ p.heavy)) (byL (Q 3)) 100000 (by rw [byL_app, p3]) (by rw [byL_len]; omega) (by rw [byL_len]; omega)] (td' := lp fEn 2) (σ' := Y 3) ?_ (by kernel_rfl)
     refine .to mo_ [.mv 5 8] [10, 57, 58] [5] 6 [yt, cl (e_renc q3.fq), .app (byL (Q 3)) (byL (encQ p.str)) (byL (Q 4)) 100000 (by rw [byL_app, p4]) (by rw [byL_len]; omega) (by rw [byL_len]; omega)] (td' := lp fEn 2) (σ' := Y 4) ?_ (by kernel_rfl)
     refine .to mo_ [.mv 5 8] [10, 57, 58] [5] 6 [yt, cl (e_renc q4.fq), .app (byL (Q 4)) (byL (encQ p.rough)) (byL (Q 5)) 100000 (by rw [byL_app, p5]) (by rw [byL_len]; omega) (by rw [byL_len]; omega)] (td' := lp fEn 2) (σ' := Y 5) ?_ (by kernel_rfl)
     rw [← pe]
     exact fi [nf] (by kernel_rfl) (by kernel_rfl)
end
end Go.Proofs.YtnpdpjfdgialeaaGreatDoor.E.Pc
namespace Go.Proofs.YtnpdpjfdgialeaaGreatDoor.E.Pc
open Go.RowKit
set_option linter.unusedVariables false
set_option linter.unusedSimpArgs false
def rdO (B : List UInt8) (n : Nat) : List HO := [.bx 125 [.sl (byL B), ni (n : Int)]]
section
variable {B : List UInt8} {n k : Nat} {A : List Int} {r : Rat}
theorem e_must (l : List V) : Pure PP 84 [.ip l, bo true] (.tu []) := tr [nf] (by kernel_rfl)
theorem e_ints (hb : B.length ≤ 1000000) (h : W.decI (B.drop n) = (A, k, 0)) (hn : n + k ≤ B.length) : PureT PP 83 (rdO B n) [.lp 0 0] (.io 1 (rdO B (n + k)) (zl A)) := by
 have c := e_wgetints (B.drop n) (by rw [List.length_drop]; omega)
 rw [h] at c
 change Pure PP _ _ (.tu [zl A, ni (k : Int), ni 0]) at c
 exact trT [nL 8 0, nL 12 0, slD B n (by omega), cl c, cl (e_must [.sl (byL B), ni (n : Int)]), nL 25 0, wq 29 ((n : Int) + (k : Int)) ((n + k : Nat) : Int) (by omega), nL 30 0] (by kernel_rfl)
theorem e_rat (hb : B.length ≤ 1000000) (h : decQ (B.drop n) = (r, k, 0)) (hn : n + k ≤ B.length) : PureT PP 85 (rdO B n) [.lp 0 0] (.io 1 (rdO B (n + k)) (.ag (dR r))) := by
 have c := e_rdec (B.drop n) (by rw [List.length_drop]; omega)
 rw [h] at c
 change Pure PP _ _ (.tu [.ag (dR r), ni (k : Int), ni 0]) at c
 exact trT [nL 8 0, nL 12 0, slD B n (by omega), cl c, cl (e_must [.sl (byL B), ni (n : Int)]), nL 25 0, wq 29 ((n : Int) + (k : Int)) ((n + k : Nat) : Int) (by omega), nL 30 0] (by kernel_rfl)
theorem idle1 : Idle PP 82 3 := by
 refine ⟨okF_of (by kernel_rfl), fun cap w hc => ?_⟩
 obtain ⟨x, y, z, rfl⟩ : ∃ x y z, cap = #[x, y, z] := by
  match cap, hc with
  | ⟨[x, y, z]⟩, _ => exact ⟨x, y, z, rfl⟩
 refine callsD_of_wpS Tryz.func82 rfl fun c₀ cs hu => ?_
 apply wpS_seq
 apply wpS_region
 simp [wpOpsS, go_sem, recoverD, hu, Tryz.ntmps82, Exit.thenS]
 apply wpS_seq
 apply wpS_region
 have hn : ∀ w, (binOp BinOp.neq 20 .nilIface .nilIface).run PP w = .ok (.bool false) w := fun _ => by kernel_rfl
 have hg : ∀ w, (eqGuard BinOp.neq 20 (.tmp 5) (.const .nilIface) .nilIface .nilIface).run PP w = .ok () w := fun _ => by kernel_rfl
 simp [wpOpsS, go_sem, Exit.thenS, hn, hg]
 refine wpS_cond (t := false) (by simp [Act.eval, Array.replicate]) ?_
 simp only [Bool.false_eq_true, if_false]
 refine wpS_of_wp (wp_skip ?_)
 cases c₀
 simp_all [bodyPostS, results, Tryz.results82]
end
end Go.Proofs.YtnpdpjfdgialeaaGreatDoor.E.Pc
