/-
 A ROW OF NAMES as it comes in.
-/
import Derived.Test.YtmhliomemdhmiaaGreatDoorCaR
import Derived.Test.YtmhliomemdhmiaaGreatDoorMemI
import Derived.OpenShut
import Derived.Test.YtmhliomemdhmiaaGreatDoorEpN
import Derived.Carry
namespace Go.Proofs.YtmhliomemdhmiaaGreatDoor.E.Ca
open Go.RowKit
set_option linter.unusedVariables false
set_option linter.unusedSimpArgs false
section
variable {l : List Int} {i k j : Nat} {c d : CM} {how n more m : Int} {lo : List (Int × Int)}
def FB (c : CM) : Prop := FBits 100 c.fit
theorem clG_fb {b s t kd : Int} {rf : List (Int × Int)} : FB (clG l i b s t rf kd) := by
 unfold clG FB
 split
 · exact zF_bits
 · exact fit_bits l _
 · exact zF_bits
theorem good_fb : ∀ i, ∀ c ∈ (goodF l i).1, FB c
 | 0, c, hc => by cases hc
 | i + 1, c, hc => by
  rcases List.mem_append.1 hc with h | h
  · exact good_fb i c h
  · rw [List.mem_singleton] at h
    subst h
    exact clG_fb
theorem bd64 {x : Int} (h : W.Is64 x) : I.Bd 64 x := by unfold I.Bd; unfold W.Is64 at h; simp; omega
theorem FB.odd (h : FB c) (x : Int) (hn : W.Is64 n) : FB (oddF c x n) := by
 have b7 : Bq 100 (Rat.divInt n 7) := (Bq.divInt (k := 64) (bd64 hn) (bd64 is7) (by omega)).mono (by omega)
 have b2 : Bq 100 (Rat.divInt n 2) := (Bq.divInt (k := 64) (bd64 hn) (bd64 is2) (by omega)).mono (by omega)
 unfold oddF
 by_cases e0 : x = 0
 · rw [if_pos e0]; exact h
 rw [if_neg e0]
 by_cases e1 : x = 1
 · rw [if_pos e1]; exact h
 rw [if_neg e1]
 by_cases e2 : x = 2
 · rw [if_pos e2]; exact h
 rw [if_neg e2]
 by_cases e3 : x = 3
 · rw [if_pos e3]; exact h
 rw [if_neg e3]
 by_cases e4 : x = 4
 · rw [if_pos e4]; exact h
 rw [if_neg e4]
 by_cases e5 : x = 5
 · rw [if_pos e5]; exact h
 rw [if_neg e5]
 by_cases e6 : x = 6
 · rw [if_pos e6]; exact h
 rw [if_neg e6]
 by_cases e7 : x = 7
 · rw [if_pos e7]; exact h
 rw [if_neg e7]
 by_cases e8 : x = 8
 · rw [if_pos e8]; exact h
 rw [if_neg e8]
 by_cases e9 : x = 9
 · rw [if_pos e9]
   intro y hy
   simp only [nu, List.mem_cons, List.not_mem_nil, or_false] at hy
   rcases hy with rfl | rfl | rfl | rfl | rfl | rfl
   · exact bq_bn b7
   all_goals exact h _ (by simp [nu])
 rw [if_neg e9]
 by_cases e10 : x = 10
 · rw [if_pos e10]
   intro y hy
   simp only [nu, List.mem_cons, List.not_mem_nil, or_false] at hy
   rcases hy with rfl | rfl | rfl | rfl | rfl | rfl
   · exact h _ (by simp [nu])
   · exact h _ (by simp [nu])
   · exact bq_bn b2
   all_goals exact h _ (by simp [nu])
 rw [if_neg e10]
 exact h
theorem odd_len (x : Int) : (oddF c x n).refs.length ≤ c.refs.length + 1 := by
 unfold oddF
 by_cases e0 : x = 0
 · rw [if_pos e0]; exact Nat.le_succ _
 rw [if_neg e0]
 by_cases e1 : x = 1
 · rw [if_pos e1]; exact Nat.le_succ _
 rw [if_neg e1]
 by_cases e2 : x = 2
 · rw [if_pos e2]; exact Nat.le_succ _
 rw [if_neg e2]
 by_cases e3 : x = 3
 · rw [if_pos e3]; exact Nat.le_succ _
 rw [if_neg e3]
 by_cases e4 : x = 4
 · rw [if_pos e4]; exact Nat.le_succ _
 rw [if_neg e4]
 by_cases e5 : x = 5
 · rw [if_pos e5]; simp
 rw [if_neg e5]
 by_cases e6 : x = 6
 · rw [if_pos e6]; simp
 rw [if_neg e6]
 by_cases e7 : x = 7
 · rw [if_pos e7]; exact Nat.le_succ _
 rw [if_neg e7]
 by_cases e8 : x = 8
 · rw [if_pos e8]; exact Nat.le_succ _
 rw [if_neg e8]
 by_cases e9 : x = 9
 · rw [if_pos e9]; exact Nat.le_succ _
 rw [if_neg e9]
 by_cases e10 : x = 10
 · rw [if_pos e10]; exact Nat.le_succ _
 rw [if_neg e10]
 exact Nat.le_succ _
def rawN (r : Int) : RN := ⟨false, [2], false, [1 + r]⟩
def odd3 (c : CM) (r : Int) : CM := { c with fit := { c.fit with n5 := rawN r } }
theorem FB.raw (h : FB c) {r : Int} (hr : 0 ≤ r ∧ r ≤ 4) : FB (odd3 c r) := by
 intro y hy
 simp only [odd3, nu, List.mem_cons, List.not_mem_nil, or_false] at hy
 rcases hy with rfl | rfl | rfl | rfl | rfl | rfl
 · exact h _ (by simp [nu])
 · exact h _ (by simp [nu])
 · exact h _ (by simp [nu])
 · exact h _ (by simp [nu])
 · exact h _ (by simp [nu])
 · have hb : ∀ x : Int, 0 ≤ x → x ≤ 100 → I.Bd 100 x := fun x h0 h1 => by
    unfold I.Bd
    have : (128 : Nat) ≤ 2 ^ 100 := by decide
    omega
   refine ⟨fun _ => ?_, fun _ => ?_⟩
   · show I.Bd 100 (I.val [2])
     exact hb _ (by decide) (by decide)
   · show I.Bd 100 (I.val [1 + r])
     have e : I.val [1 + r] = 1 + r := by simp [I.val]
     rw [e]
     exact hb _ (by omega) (by omega)
/-- A valid join's turn. -/
theorem v_join (h : validI d = 0) (hk : d.kind = 1) : fitsB d.fit true = true := by
 unfold validI at h
 cases h1 : decide (((rfs d.refs).length : Int) > 16) with
 | true => rw [h1] at h; exact absurd h (show ¬ (4 : Int) = 0 by decide)
 | false =>
  cases h2 : headB d with
  | true => rw [h1, h2] at h; exact absurd h (show ¬ (1 : Int) = 0 by decide)
  | false =>
   rw [h1, h2, hk] at h
   have h3 : okI (bodyP d.refs d.w (fitsB d.fit true) 1 16 false) = 0 := h
   cases h4 : fitsB d.fit true with
   | true => rfl
   | false =>
    rw [h4] at h3
    have h5 : bodyP d.refs d.w false 1 16 false = true := by unfold bodyP; simp
    rw [h5] at h3
    exact absurd h3 (by decide)
theorem e_join (hb : FB d) (h : fitsB d.fit true = true) : Pure PP 16 [.ag (cN d.fit.n0 ++ cN d.fit.n1)] (bo true) := by
 unfold fitsB at h
 rw [Bool.and_eq_true] at h
 have h1 : (nu d.fit).any (badR true) = false := by simpa using h.1
 have h2 : needB d.fit = true := h.2
 unfold FB at hb
 generalize d.fit = f at *
 obtain ⟨g, rfl⟩ := all_ok h1
 have b0 := (hb (ofR g.r0) (by simp [nu, FQ.fm])).bq (by omega)
 have b1 := (hb (ofR g.r1) (by simp [nu, FQ.fm])).bq (by omega)
 have h3 : oneB g.r0 g.r1 = true := by
  simp only [needB, FQ.fm, q_ofR, Bool.and_eq_true] at h2
  exact h2.1.1.2
 exact eB (e_tvalid b0 b1 (by omega)) h3
noncomputable abbrev fcv : Func := fnOf PP 3
noncomputable def V1 (how n more m : Int) (lo : List (Int × Int)) (G : List CM) (i : Nat) : St := at_ fcv [(1, ni how), (2, ni n), (3, ni more), (4, ni m), (5, .sl (rfs lo)), (13, .sl (G.map dC)), (14, ni i)] []
noncomputable def V2 (how n more m : Int) (lo : List (Int × Int)) (G : List CM) (i : Nat) (c : CM) (M : List CM) (k : Nat) : St := at_ fcv [(1, ni how), (2, ni n), (3, ni more), (4, ni m), (5, .sl (rfs lo)), (13, .sl (G.map dC)), (14, ni i), (15, .lp 0 0), (17, .ow 2), (18, ni k)] [.bx 37 (dC c), .dead, .rw 37 35 (M.map dC)]
abbrev GV (td : List Item) (σ : St) : Prop := Gd PP 3 (bo true) td σ
theorem v_in {G M : List CM} (hM : M.length ≤ 10) (hF : ∀ d ∈ M, FB d) (hc : FB c) (h0 : validI c = 0) (hi : i < 1000) (next : GV (lp fcv 0) (V1 how n more m lo G (i + 1))) : GV (lp fcv 1) (V2 how n more m lo G i c M 0) := by
 refine Gd.loop (V2 how n more m lo G i c M) (fun k => k ≤ M.length) (fun k => M.length - k) ?_ 0 (Nat.zero_le _)
 intro k hk ih
 by_cases h : k < M.length
 · have nx := ih (k + 1) h (by omega)
   have e := elC h
   have hd := hF _ (getD_mem (d := c0) h)
   generalize M.getD k c0 = d at e hd
   have hv := e_cvalid hd (by omega)
   have h6 := e_cvalid6 hd (by omega)
   let F : List F_ := [ye (t := ltS M k) (ltS_t h), .sel _ _ _ e, .sel _ _ _ e, cl hv, .sel _ _ _ e, .sel _ _ _ e, cl h6, na (t := validI d != validI d) (by simp)]
   cases g0 : (validI d == 0) with
   | false => exact .to mo_ [] [1, 2, 3, 4, 5, 13, 14, 15, 17, 18] [0, 2] 3 (F ++ [na (t := validI d == 0) g0, nf, nf, inc 71 k (by omega)]) nx (by kernel_rfl)
   | true =>
    cases g1 : (d.kind == 1) with
    | false => exact .to mo_ [] [1, 2, 3, 4, 5, 13, 14, 15, 17, 18] [0, 2] 3 (F ++ [ye (t := validI d == 0) g0, .sel _ _ _ e, .sel _ _ _ e, na (t := d.kind == 1) g1, nf, inc 71 k (by omega)]) nx (by kernel_rfl)
    | true =>
     have hj := e_join hd (v_join (by simpa using g0) (by simpa using g1))
     exact .to mo_ [] [1, 2, 3, 4, 5, 13, 14, 15, 17, 18] [0, 2] 3 (F ++ [ye (t := validI d == 0) g0, .sel _ _ _ e, .sel _ _ _ e, ye (t := d.kind == 1) g1, .sel _ _ _ e, .sel _ _ _ e, cl hj, nf, inc 71 k (by omega)]) nx (by kernel_rfl)
 · have hv := eV (e_cvalid hc (by omega)) h0
   exact .to mo_ [] [1, 2, 3, 4, 5, 13, 14] [] 0 [na (t := ltS M k) (ltS_f h), cl hv, nf, inc 27 i (by omega)] next (by kernel_rfl)
theorem l_valid15 (hl : ∀ x ∈ l, W.Is64 x) (hw : W.Is64 how) (hn : W.Is64 n) (hw2 : W.Is64 more) (hm : W.Is64 m) (hlo : lo.length ≤ 9223372036854775807) : Pure PP 3 [zl l, ni how, ni n, ni more, ni m, .sl (rfs lo)] (bo true) := by
 have hG := goodL_len l
 have hq : ∀ c ∈ goodL l, Qc c := goodL_q
 have hb : ∀ c ∈ goodL l, FB c := good_fb (l := l) _
 have hv : ∀ c ∈ goodL l, validI c = 0 := fun c h => good_valid h
 refine pf (by kernel_rfl) (.to mo_ [.fz 13] [1, 2, 3, 4, 5, 13, 14] [] 0 [cl (e_good hl)] (td' := lp fcv 0) (σ' := V1 how n more m lo (goodL l) 0) ?_ (by kernel_rfl))
 generalize goodL l = G at *
 refine Gd.loop (V1 how n more m lo G) (fun i => i ≤ G.length) (fun i => G.length - i) ?_ 0 (Nat.zero_le _)
 intro i hi ih
 by_cases h : i < G.length
 · have nx := ih (i + 1) h (by omega)
   have e := elC h
   have hmem := getD_mem (d := c0) h
   have hbc := hb _ hmem
   have hvc := hv _ hmem
   obtain ⟨q, hqq, hql⟩ := hq _ hmem
   have hrl : (G.getD i c0).refs.length ≤ 10 := by rw [hqq]; exact hql
   generalize G.getD i c0 = c at *
   have o1 := e_odd (c := c) (by omega) hw hn
   have hr1 := odd_len (c := c) (n := n) (rnd how 11)
   have o2 := e_odd (c := oddF c (rnd how 11) n) (by omega) hw2 hm
   have ha := e_around hn 4
   have hr := rnd_in n 4
   let k := min lo.length 20
   let M : List CM := [c, oddF c (rnd how 11) n, oddF (oddF c (rnd how 11) n) (rnd more 11) m, odd3 c (rnd n 4), { c with refs := lo.take k }]
   have hM : ∀ d ∈ M, FB d := fun d hd => by
    simp only [M, List.mem_cons, List.not_mem_nil, or_false] at hd
    rcases hd with rfl | rfl | rfl | rfl | rfl
    · exact hbc
    · exact hbc.odd _ hn
    · exact (hbc.odd _ hn).odd _ hm
    · exact hbc.raw (by omega)
    · exact hbc
   let L0 : List (List V) := [dC c, dC (oddF c (rnd how 11) n), dC (oddF (oddF c (rnd how 11) n) (rnd more 11) m), dC c, dC c]
   let L1 : List (List V) := [dC c, dC (oddF c (rnd how 11) n), dC (oddF (oddF c (rnd how 11) n) (rnd more 11) m), dC (odd3 c (rnd n 4)), dC c]
   have fin := v_in (how := how) (n := n) (more := more) (m := m) (lo := lo) (G := G) (M := M) (c := c) (by show 5 ≤ 10; decide) hM hbc hvc (by omega) nx
   have htk : (rfs lo).take k = rfs (lo.take k) := by unfold rfs; rw [List.map_take]
   exact .to mo_ [] [1, 2, 3, 4, 5, 13, 14, 15, 17, 18] [0, 2] 3 [ye (t := ltS G i) (ltS_t h), .sel _ _ _ e, cl o1, cl o2, .eqv 44 (.ow 2) (.ow 2) rfl, .ro, cl ha, wq 50 (1 + rnd n 4) (1 + rnd n 4) (by omega), .ro, .sel L0 3 (dC c) rfl, .upd L0 3 (dC c) (dC (odd3 c (rnd n 4))) L1 rfl rfl, .eqv 61 (ni ((rfs lo).length : Int)) (ni (lo.length : Int)) (by rw [rfs_len]), .eqv 62 (ni (if (20 : Int) < (lo.length : Int) then (20 : Int) else (lo.length : Int))) (ni (k : Int)) (by simp only [k]; congr 1; split <;> omega), .slc (rfs lo) 0 k 2 (rfs (lo.take k)) (by rw [← htk]; rfl) ⟨Nat.zero_le _, by rw [rfs_len]; exact Nat.min_le_left _ _⟩ (nm_len lo), .sel L1 4 (dC c) rfl, .upd L1 4 (dC c) (dC { c with refs := lo.take k }) (M.map dC) rfl rfl] fin (by kernel_rfl)
 · exact fi [na (t := ltS G i) (ltS_f h), cl e_lives15] (by kernel_rfl) (by kernel_rfl)
end
end Go.Proofs.YtmhliomemdhmiaaGreatDoor.E.Ca
namespace Go.Proofs.YtmhliomemdhmiaaGreatDoor
open Go.RowKit
theorem is64_of {n : Int} (h : (Lit.int .i64 n).wf = true) : W.Is64 n := by
 have := bounds_i64 h
 unfold W.Is64
 omega
end Go.Proofs.YtmhliomemdhmiaaGreatDoor
namespace Go.Proofs.YtmhliomemdhmiaaGreatDoor.E
open Go.RowKit
set_option linter.unusedVariables false
theorem cb_of {w : World} {b o : Nat} {v : Value} (h : w.cell? ⟨b, o, none⟩ = some v) : CB w b := by
 unfold World.cell? at h
 split at h
 · rename_i cs T fr hb
   exact ⟨cs, T, fr, hb⟩
 · cases h
def Rt (X : World → Value → Prop) (w : World) (e : Ending) (w' : World) : Prop := ∃ v, e = .returned v ∧ X w' v ∧ Below w.heap.size w w'
theorem back {P : Program} {f : FuncId} {ds : List V} {d : V} (h : Pure P f ds d) {w : World} {args : Array Value} (ha : Reps w (fun _ => False) no args ds) : Calls P f args w (Rt (fun w v => Rep w (fun _ => False) no v d) w) :=
 (h.2 w (fun _ => False) args (fun _ h => h.elim) ha).mono fun e w' h => h
theorem to_tt {w w' : World} {e : Ending} (h : Rt (fun w v => Rep w (fun _ => False) no v (bo true)) w e w') : e = .returned (.bool true) ∧ Below w.heap.size w w' := by
 obtain ⟨v, rfl, h1, h2⟩ := h
 exact ⟨by rw [Rep.k_inv h1], h2⟩
/-- A law of any arguments. -/
theorem lawG {f : FuncId} {us : List Value} {ds : List V} {w : World} (h : Pure PP f ds (bo true)) (hg : Glo w (fun _ => False)) (hl : us.length = ds.length) (hr : ∀ j, j < ds.length → Rep w (fun _ => False) no (us.getD j undef) (ds.getD j .un)) :
    Calls PP f us.toArray w fun e w' => e = .returned (.bool true) ∧ Below w.heap.size w w' :=
 (back h (reps_of hl hg hr)).mono fun _ _ => to_tt
end Go.Proofs.YtmhliomemdhmiaaGreatDoor.E
namespace Go.Proofs.YtmhliomemdhmiaaGreatDoor.E
open Go.RowKit
set_option linter.unusedVariables false
/-- The cells of a type. -/
inductive Sh where
 | bb
 | ii (k : IntKind)
 | ss
 | row (e : List Sh)
def shapeF (g : TypeId → Option (List Sh)) (c : TypeId → Nat) : Nat → List Field → Option (List Sh)
 | _, [] => some []
 | o, f :: r => match g f.type, shapeF g c (o + c f.type) r with
   | some l, some m => match Nat.beq f.offset o && Nat.beq l.length (c f.type) with
     | true => some (l ++ m)
     | false => none
   | _, _ => none
def shape (P : Program) : Nat → TypeId → Option (List Sh)
 | 0, _ => none
 | n + 1, t => match P.underlying t with
   | some .bool => some [.bb]
   | some (.int k) => some [.ii k]
   | some .string => some [.ss]
   | some (.slice e) => match shape P n e with
     | some l => match Nat.beq l.length (P.cellsOf e) && Nat.blt 0 l.length with
       | true => some [.row l]
       | false => none
     | none => none
   | some (.struct fs) => match shapeF (shape P n) P.cellsOf 0 fs.toList with
     | some l => match Nat.beq l.length (P.cellsOf t) with
       | true => some l
       | false => none
     | none => none
   | _ => none
/-- What stands in such a cell. -/
inductive Fit : Sh → V → Prop
 | b (x : Bool) : Fit .bb (.k (.bool x))
 | i (k : IntKind) (n : Int) (h : (Lit.int k n).wf = true) : Fit (.ii k) (.k (.int k n))
 | s (x : ByteArray) (h : x.size ≤ maxLen) : Fit .ss (.k (.string x))
 | row (e : List Sh) (l : List (List V)) (h0 : l.length ≤ maxLen) (h1 : ∀ cs ∈ l, cs.length = e.length) (h2 : ∀ cs ∈ l, ∀ (j : Nat) (sh : Sh) (x : V), e[j]? = some sh → cs[j]? = some x → Fit sh x) : Fit (.row e) (.sl l)
def FitL (e : List Sh) (xs : List V) : Prop := xs.length = e.length ∧ ∀ (j : Nat) (sh : Sh) (x : V), e[j]? = some sh → xs[j]? = some x → Fit sh x
abbrev FA : Nat → Prop := fun _ => False
def RepL (w : World) (cs : List Value) (xs : List V) : Prop := ∀ (j : Nat) (v : Value) (d : V), cs[j]? = some v → xs[j]? = some d → Rep w FA no v d
theorem FitL.nil : FitL [] [] := ⟨rfl, fun j sh x h => by simp at h⟩
theorem FitL.one {q : Sh} {x : V} (h : Fit q x) : FitL [q] [x] := ⟨rfl, fun j sh y h1 h2 => by
 match j with
 | 0 => simp at h1 h2; subst h1; subst h2; exact h
 | j + 1 => simp at h1⟩
theorem FitL.app {e f : List Sh} {xs ys : List V} (h : FitL e xs) (g : FitL f ys) : FitL (e ++ f) (xs ++ ys) := by
 refine ⟨by rw [List.length_append, List.length_append, h.1, g.1], fun j sh x h1 h2 => ?_⟩
 by_cases hj : j < e.length
 · rw [List.getElem?_append_left hj] at h1
   rw [List.getElem?_append_left (by rw [h.1]; exact hj)] at h2
   exact h.2 j sh x h1 h2
 · rw [List.getElem?_append_right (by omega)] at h1
   rw [List.getElem?_append_right (by rw [h.1]; omega), h.1] at h2
   exact g.2 _ sh x h1 h2
section
variable {H : Type} {enc : TypeId × Value → H} {P : Program} {w : World}
theorem fields_rep {g : TypeId → Option (List Sh)} {c : TypeId → Nat} {α : Type} {tr : TypeId → List Value → Option α} {cs : List Value} (hg : ∀ t cs' x l, tr t cs' = some x → g t = some l → cs'.length = l.length ∧ ∃ xs, FitL l xs ∧ RepL w cs' xs) :
  ∀ (r : List Field) (o : Nat) (l : List Sh), shapeF g c o r = some l → (∀ f ∈ r, ∃ x, tr f.type ((cs.drop f.offset).take (c f.type)) = some x) → ∃ xs, FitL l xs ∧ RepL w (cs.drop o) xs
 | [], o, l, h, _ => by
  simp only [shapeF, Option.some.injEq] at h
  subst h
  exact ⟨[], FitL.nil, fun j v d _ h => by simp at h⟩
 | f :: r, o, l, h, ht => by
  simp only [shapeF] at h
  split at h
  · rename_i l1 l2 e1 e2
    split at h
    · rename_i hc
      simp only [Bool.and_eq_true, Nat.beq_eq] at hc
      injection h with h
      subst h
      obtain ⟨x, hx⟩ := ht f (List.mem_cons_self ..)
      obtain ⟨h1, xs, h2, h3⟩ := hg _ _ _ _ hx e1
      obtain ⟨ys, h4, h5⟩ := fields_rep hg r _ _ e2 fun f hf => ht f (List.mem_cons_of_mem _ hf)
      refine ⟨xs ++ ys, h2.app h4, fun j v d hv hd => ?_⟩
      rw [hc.1] at h3
      by_cases hj : j < l1.length
      · rw [List.getElem?_append_left (by rw [h2.1]; exact hj)] at hd
        refine h3 j v d ?_ hd
        rw [List.getElem?_take, if_pos (by omega)]
        exact hv
      · rw [List.getElem?_append_right (by rw [h2.1]; omega), h2.1] at hd
        refine h5 (j - l1.length) v d ?_ hd
        rw [List.getElem?_drop] at hv ⊢
        rw [show o + c f.type + (j - l1.length) = o + j by omega]
        exact hv
    · cases h
  · cases h
theorem trod_rep : ∀ (fuel n : Nat) (t : TypeId) (cs : List Value) (x : DataW H × List MemPlace) (l : List Sh), DataW.trod enc P w 0 (fun _ => true) true fuel t cs = some x → shape P n t = some l → cs.length = l.length ∧ ∃ xs, FitL l xs ∧ RepL w cs xs := by
 intro fuel
 induction fuel with
 | zero => intro n t cs x l h; simp [DataW.trod] at h
 | succ fuel ih =>
  intro n t cs x l h hs
  cases n with
  | zero => cases hs
  | succ n =>
   have one : ∀ {q : Sh} {v : Value} {d : V}, Fit q d → Rep w FA no v d → [v].length = [q].length ∧ ∃ xs, FitL [q] xs ∧ RepL w [v] xs := fun {q v d} h1 h2 => ⟨rfl, [d], FitL.one h1, fun j v' d' e1 e2 => by
    match j with
    | 0 => simp at e1 e2; subst e1; subst e2; exact h2
    | j + 1 => simp at e1⟩
   unfold shape at hs
   split at hs
   · rename_i hu
     injection hs with hs; subst hs
     unfold DataW.trod at h
     rw [hu] at h
     split at h <;> simp_all
     exact one (.b _) (.k _ _)
   · rename_i k hu
     injection hs with hs; subst hs
     unfold DataW.trod at h
     rw [hu] at h
     split at h <;> simp_all
     obtain ⟨⟨rfl, h1⟩, _⟩ := h
     exact one (.i _ _ h1) (.k _ _)
   · rename_i hu
     injection hs with hs; subst hs
     unfold DataW.trod at h
     rw [hu] at h
     split at h <;> simp_all
     exact one (.s _ h.1) (.k _ _)
   · rename_i e hu
     split at hs
     · rename_i l' hl'
       split at hs
       · rename_i hc
         simp only [Bool.and_eq_true, Nat.beq_eq, Nat.blt_eq] at hc
         injection hs with hs; subst hs
         rcases DataW.trod_slice hu h with ⟨rfl, _⟩ | ⟨a, len, cap, elems, rest, n', hn', rfl, rfl, hb, hl, hm, hlen, hel, hsp, hns⟩
         · exact one (.row l' [] (by simp) (by simp) (by simp)) (.sl _ none 0 0 0 l'.length [] (fun _ _ => undef) (Nat.zero_le _) (Nat.zero_le _) (by simp) (by simp) (by simp) (by simp))
         · obtain rfl : fuel = n' := by omega
           have he : ∀ i, i < len → ∃ xs, FitL l' xs ∧ ∀ j d, xs[j]? = some d → ∃ v, w.cell? (a.add (i * P.cellsOf e) |>.add j) = some v ∧ Rep w FA no v d := by
            intro i hi
            have hq := hel i hi
            rw [List.getElem?_eq_getElem (by omega)] at hq
            obtain ⟨cs', h1, h2⟩ := Option.bind_eq_some_iff.1 hq
            obtain ⟨h3, xs, h4, h5⟩ := ih n e cs' _ l' h2 hl'
            obtain ⟨_, h6, h7⟩ := World.cells?_some h1
            refine ⟨xs, h4, fun j d hd => ?_⟩
            have hjl := (List.getElem?_eq_some_iff.1 hd).1
            rw [h4.1] at hjl
            have hv : cs'[j]? = some cs'[j] := List.getElem?_eq_getElem (by omega)
            exact ⟨_, (h7 j (by omega)).trans hv, h5 j _ d hv hd⟩
           by_cases h0 : len = 0
           · subst h0
             exact one (.row l' [] (by simp) (by simp) (by simp)) (.sl _ (some a) 0 0 cap l'.length [] (fun _ _ => undef) (Nat.zero_le _) hm (by simp) (by simp) (by simp) (by simp))
           · have hch : ∃ F : Nat → List V, ∀ i, i < len → FitL l' (F i) ∧ ∀ j d, (F i)[j]? = some d → ∃ v, w.cell? (a.add (i * P.cellsOf e) |>.add j) = some v ∧ Rep w FA no v d :=
              ⟨fun i => if h : i < len then (he i h).choose else [], fun i hi => by simp only [dif_pos hi]; exact (he i hi).choose_spec⟩
             obtain ⟨F, hF⟩ := hch
             obtain ⟨b, o, spot⟩ := a
             have hspot : spot = none := by
              obtain ⟨h1, h2⟩ := hF 0 (by omega)
              have hlt : 0 < (F 0).length := by rw [h1.1]; exact hc.2
              obtain ⟨v, h3, _⟩ := h2 0 _ (List.getElem?_eq_getElem hlt)
              simpa [Addr.add] using World.cell?_spot h3
             subst hspot
             have hadd : ∀ i j : Nat, ((⟨b, o, none⟩ : Addr).add (i * P.cellsOf e)).add j = ⟨b, o + i * l'.length + j, none⟩ := fun i j => by rw [hc.1, Go.WideShapes.add_plain, Go.WideShapes.add_plain]
             let L : List (List V) := (List.range len).map F
             have hL : L.length = len := by simp [L]
             have hLi : ∀ i cs, L[i]? = some cs → i < len ∧ cs = F i := fun i cs hi => by
              have hlt := (List.getElem?_eq_some_iff.1 hi).1
              rw [hL] at hlt
              simp only [L, List.getElem?_map, List.getElem?_range hlt, Option.map_some, Option.some.injEq] at hi
              exact ⟨hlt, hi.symm⟩
             have hmem : ∀ cs ∈ L, ∃ i, i < len ∧ cs = F i := fun cs hcs => by
              obtain ⟨i, hi⟩ := List.getElem?_of_mem hcs
              exact ⟨i, hLi i cs hi⟩
             have hr : Rep w FA no (.slice (some ⟨b, o, none⟩) L.length cap) (.sl L) := by
              refine .sl _ _ b o cap l'.length L (fun i j => (w.cell? ⟨b, o + i * l'.length + j, none⟩).getD undef) (by omega) hm (fun _ => ⟨rfl, fun e => e, ?_⟩) (fun cs hcs => ?_) (fun i j cs x hi hj => ?_) (fun i j cs x hi hj => ?_)
              · obtain ⟨h1, h2⟩ := hF 0 (by omega)
                have hlt : 0 < (F 0).length := by rw [h1.1]; exact hc.2
                obtain ⟨v, h3, _⟩ := h2 0 _ (List.getElem?_eq_getElem hlt)
                rw [hadd] at h3
                exact cb_of h3
              · obtain ⟨i, hi, rfl⟩ := hmem cs hcs
                exact (hF i hi).1.1
              · obtain ⟨hi', rfl⟩ := hLi i cs hi
                obtain ⟨v, h3, _⟩ := (hF i hi').2 j x hj
                rw [hadd] at h3
                rw [h3]; rfl
              · obtain ⟨hi', rfl⟩ := hLi i cs hi
                obtain ⟨v, h3, h4⟩ := (hF i hi').2 j x hj
                rw [hadd] at h3
                rw [h3]
                exact h4
             rw [hL] at hr
             refine one (.row l' L (by omega) (fun cs hcs => ?_) (fun cs hcs j sh x h1 h2 => ?_)) hr
             · obtain ⟨i, hi, rfl⟩ := hmem cs hcs
               exact (hF i hi).1.1
             · obtain ⟨i, hi, rfl⟩ := hmem cs hcs
               exact (hF i hi).1.2 j sh x h1 h2
       · cases hs
     · cases hs
   · rename_i fs hu
     split at hs
     · rename_i l' hl'
       split at hs
       · rename_i hc
         have hc := Nat.eq_of_beq_eq_true hc
         injection hs with hs; subst hs
         obtain ⟨xs, n', hn', _, h1, h2, h3⟩ := DataW.trod_struct hu h
         obtain rfl : fuel = n' := by omega
         obtain ⟨ys, h4, h5⟩ := fields_rep (w := w) (c := P.cellsOf) (tr := fun t cs => DataW.trod enc P w 0 (fun _ => true) true fuel t cs) (cs := cs) (fun t cs' x l a b => ih n t cs' x l a b) fs.toList 0 l' hl' (fun f hf => by
          obtain ⟨i, hi⟩ := List.getElem?_of_mem hf
          have hi2 : fs[i]? = some f := by simpa using hi
          have hlt := (Array.getElem?_eq_some_iff.1 hi2).1
          have h6 := h3 i f hi2
          rw [List.getElem?_eq_getElem (by omega)] at h6
          exact ⟨_, h6⟩)
         exact ⟨by omega, ys, h4, by simpa using h5⟩
       · cases hs
     · cases hs
   · cases hs
/-- An argument of one cell. -/
theorem arg_1 {n : Nat} {t : TypeId} {v : Value} {d : DataW H} {ps : List MemPlace} {q : Sh} (h : DataW.Trod enc P w 0 (fun _ => true) true t v d ps) (hv : v.cells = #[v]) (hs : shape P n t = some [q]) : ∃ x, Fit q x ∧ Rep w FA no v x := by
 obtain ⟨fuel, hf⟩ := h
 rw [hv] at hf
 obtain ⟨_, xs, h1, h2⟩ := trod_rep fuel n t _ _ _ hf hs
 match xs, h1 with
 | [x], h1 => exact ⟨x, h1.2 0 q x rfl rfl, h2 0 v x rfl rfl⟩
end
/-- A row of ints. -/
theorem Fit.ints {x : V} (h : Fit (.row [.ii .i64]) x) : ∃ l : List Int, x = zl l ∧ ∀ n ∈ l, W.Is64 n := by
 cases h with
 | row e l h0 h1 h2 =>
  clear h0
  suffices h : ∃ l' : List Int, l = zs l' ∧ ∀ n ∈ l', W.Is64 n by
   obtain ⟨l', rfl, h⟩ := h
   exact ⟨l', rfl, h⟩
  induction l with
  | nil => exact ⟨[], rfl, by simp⟩
  | cons a r ih =>
   obtain ⟨l', rfl, h3⟩ := ih (fun cs h => h1 cs (List.mem_cons_of_mem _ h)) (fun cs h => h2 cs (List.mem_cons_of_mem _ h))
   have hl := h1 a (List.mem_cons_self ..)
   have hf := h2 a (List.mem_cons_self ..)
   match a, hl with
   | [y], _ =>
    have hy := hf 0 _ y rfl rfl
    cases hy with
    | i k n hw => exact ⟨n :: l', rfl, fun m hm => by
      rcases List.mem_cons.1 hm with rfl | hm
      · exact is64_of hw
      · exact h3 m hm⟩
theorem Fit.int {x : V} (h : Fit (.ii .i64) x) : ∃ n : Int, x = ni n ∧ W.Is64 n := by
 cases h with
 | i k n hw => exact ⟨n, rfl, is64_of hw⟩
theorem Fit.bool {x : V} (h : Fit .bb x) : ∃ b : Bool, x = bo b := by
 cases h with
 | b x => exact ⟨x, rfl⟩
end Go.Proofs.YtmhliomemdhmiaaGreatDoor.E
namespace Go.Proofs.YtmhliomemdhmiaaGreatDoor.E
open Go.RowKit
set_option linter.unusedVariables false
theorem Fit.names {x : V} (h : Fit (.row [.ii .i64, .ii .i64]) x) : ∃ lo : List (Int × Int), x = .sl (Ca.rfs lo) ∧ lo.length ≤ 9223372036854775807 := by
 cases h with
 | row e l h0 h1 h2 =>
  suffices h : ∃ lo, l = Ca.rfs lo by
   obtain ⟨lo, rfl⟩ := h
   refine ⟨lo, rfl, ?_⟩
   rw [Ca.rfs_len] at h0
   unfold maxLen at h0
   exact h0
  clear h0
  induction l with
  | nil => exact ⟨[], rfl⟩
  | cons a r ih =>
   obtain ⟨lo, rfl⟩ := ih (fun cs h => h1 cs (List.mem_cons_of_mem _ h)) (fun cs h => h2 cs (List.mem_cons_of_mem _ h))
   have hl := h1 a (List.mem_cons_self ..)
   have hf := h2 a (List.mem_cons_self ..)
   match a, hl with
   | [y, z], _ =>
    obtain ⟨n, rfl, _⟩ := Fit.int (hf 0 _ y rfl rfl)
    obtain ⟨m, rfl, _⟩ := Fit.int (hf 1 _ z rfl rfl)
    exact ⟨(n, m) :: lo, rfl⟩
theorem all6 {p : Nat → Prop} (h0 : p 0) (h1 : p 1) (h2 : p 2) (h3 : p 3) (h4 : p 4) (h5 : p 5) : ∀ j, j < 6 → p j := fun j hj => by
 match j, hj with
 | 0, _ => exact h0
 | 1, _ => exact h1
 | 2, _ => exact h2
 | 3, _ => exact h3
 | 4, _ => exact h4
 | 5, _ => exact h5
end Go.Proofs.YtmhliomemdhmiaaGreatDoor.E
