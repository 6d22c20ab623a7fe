/-
 PLAIN: decoding strings and lists.
-/
import Derived.Test.YthliihpeodohpaaGreatDoorCaN
import Derived.Test.YthliihpeodohpaaGreatDoorMemR
namespace Go.Proofs.YthliihpeodohpaaGreatDoor.E.Ca
open Go.RowKit
set_option linter.unusedVariables false
set_option linter.unusedSimpArgs false
def ub (l : List Int) : List (List V) := l.map fun x => [.k (.int .u8 x)]
theorem ub_app (a b : List Int) : ub a ++ ub b = ub (a ++ b) := List.map_append.symm
theorem ub_len (a : List Int) : (ub a).length = a.length := List.length_map ..
theorem ub_ok (a : List Int) : ∀ cs ∈ ub a, cs.length = 1 ∧ cs.all one = true := fun cs h => by
 obtain ⟨x, _, rfl⟩ := List.mem_map.1 h
 exact ⟨rfl, rfl⟩
theorem ub_k (a : List Int) : ∀ cs ∈ ub a, cs.all isK = true := fun cs h => by
 obtain ⟨x, _, rfl⟩ := List.mem_map.1 h
 rfl
noncomputable abbrev fwi : Func := fnOf PP 82
theorem e_wi0 : Pure PP 82 [ni 0] (.o 5 1 (ub [128])) := by
  refine pf (by kernel_rfl) (.to mo_ [] [3, 4, 5] [] 0 [nf] (td' := lp fwi 0) (σ' := at_ fwi [(3, .k (.int .u64 0)), (4, .k (.int .u8 0)), (5, ni 8)] []) ?_ (by kernel_rfl))
  refine .to mo_ [] [3, 4, 5] [] 0 [yt, nf] (td' := lp fwi 0) (σ' := at_ fwi [(3, .k (.int .u64 0)), (4, .k (.int .u8 0)), (5, ni 7)] []) ?_ (by kernel_rfl)
  refine .to mo_ [] [3, 4, 5] [] 0 [yt, nf] (td' := lp fwi 0) (σ' := at_ fwi [(3, .k (.int .u64 0)), (4, .k (.int .u8 0)), (5, ni 6)] []) ?_ (by kernel_rfl)
  refine .to mo_ [] [3, 4, 5] [] 0 [yt, nf] (td' := lp fwi 0) (σ' := at_ fwi [(3, .k (.int .u64 0)), (4, .k (.int .u8 0)), (5, ni 5)] []) ?_ (by kernel_rfl)
  refine .to mo_ [] [3, 4, 5] [] 0 [yt, nf] (td' := lp fwi 0) (σ' := at_ fwi [(3, .k (.int .u64 0)), (4, .k (.int .u8 0)), (5, ni 4)] []) ?_ (by kernel_rfl)
  refine .to mo_ [] [3, 4, 5] [] 0 [yt, nf] (td' := lp fwi 0) (σ' := at_ fwi [(3, .k (.int .u64 0)), (4, .k (.int .u8 0)), (5, ni 3)] []) ?_ (by kernel_rfl)
  refine .to mo_ [] [3, 4, 5] [] 0 [yt, nf] (td' := lp fwi 0) (σ' := at_ fwi [(3, .k (.int .u64 0)), (4, .k (.int .u8 0)), (5, ni 2)] []) ?_ (by kernel_rfl)
  refine .to mo_ [] [3, 4, 5] [] 0 [yt, nf] (td' := lp fwi 0) (σ' := at_ fwi [(3, .k (.int .u64 0)), (4, .k (.int .u8 0)), (5, ni 1)] []) ?_ (by kernel_rfl)
  refine .to mo_ [] [3, 4, 5] [] 0 [yt, nf] (td' := lp fwi 0) (σ' := at_ fwi [(3, .k (.int .u64 0)), (4, .k (.int .u8 0)), (5, ni 0)] []) ?_ (by kernel_rfl)
  refine .to mo_ [] [3, 4, 6, 7] [0] 1 [nf] (td' := lp fwi 1) (σ' := at_ fwi [(3, .k (.int .u64 0)), (4, .k (.int .u8 0)), (6, .ow 0), (7, ni (-1))] [.rw 5 1 (ub [128])]) ?_ (by kernel_rfl)
  exact fi [nf] (by kernel_rfl) (by kernel_rfl)
theorem e_wi1 : Pure PP 82 [ni 1] (.o 5 1 (ub [129, 1])) := by
  refine pf (by kernel_rfl) (.to mo_ [] [3, 4, 5] [] 0 [nf] (td' := lp fwi 0) (σ' := at_ fwi [(3, .k (.int .u64 1)), (4, .k (.int .u8 0)), (5, ni 8)] []) ?_ (by kernel_rfl))
  refine .to mo_ [] [3, 4, 5] [] 0 [yt, nf] (td' := lp fwi 0) (σ' := at_ fwi [(3, .k (.int .u64 1)), (4, .k (.int .u8 0)), (5, ni 7)] []) ?_ (by kernel_rfl)
  refine .to mo_ [] [3, 4, 5] [] 0 [yt, nf] (td' := lp fwi 0) (σ' := at_ fwi [(3, .k (.int .u64 1)), (4, .k (.int .u8 0)), (5, ni 6)] []) ?_ (by kernel_rfl)
  refine .to mo_ [] [3, 4, 5] [] 0 [yt, nf] (td' := lp fwi 0) (σ' := at_ fwi [(3, .k (.int .u64 1)), (4, .k (.int .u8 0)), (5, ni 5)] []) ?_ (by kernel_rfl)
  refine .to mo_ [] [3, 4, 5] [] 0 [yt, nf] (td' := lp fwi 0) (σ' := at_ fwi [(3, .k (.int .u64 1)), (4, .k (.int .u8 0)), (5, ni 4)] []) ?_ (by kernel_rfl)
  refine .to mo_ [] [3, 4, 5] [] 0 [yt, nf] (td' := lp fwi 0) (σ' := at_ fwi [(3, .k (.int .u64 1)), (4, .k (.int .u8 0)), (5, ni 3)] []) ?_ (by kernel_rfl)
  refine .to mo_ [] [3, 4, 5] [] 0 [yt, nf] (td' := lp fwi 0) (σ' := at_ fwi [(3, .k (.int .u64 1)), (4, .k (.int .u8 0)), (5, ni 2)] []) ?_ (by kernel_rfl)
  refine .to mo_ [] [3, 4, 5] [] 0 [yt, nf] (td' := lp fwi 0) (σ' := at_ fwi [(3, .k (.int .u64 1)), (4, .k (.int .u8 0)), (5, ni 1)] []) ?_ (by kernel_rfl)
  refine .to mo_ [] [3, 4, 6, 7] [0] 1 [yt, yt] (td' := lp fwi 1) (σ' := at_ fwi [(3, .k (.int .u64 1)), (4, .k (.int .u8 0)), (6, .ow 0), (7, ni (0))] [.rw 5 1 (ub [129])]) ?_ (by kernel_rfl)
  refine .to mo_ [.mv 0 2] [3, 4, 6, 7] [0] 1 [yt, .app (ub [129]) (ub [1]) (ub [129, 1]) 100 rfl (by decide) (by decide)] (td' := lp fwi 1) (σ' := at_ fwi [(3, .k (.int .u64 1)), (4, .k (.int .u8 0)), (6, .ow 0), (7, ni (-1))] [.rw 5 1 (ub [129, 1])]) ?_ (by kernel_rfl)
  exact fi [nf] (by kernel_rfl) (by kernel_rfl)
theorem e_wi5 : Pure PP 82 [ni 5] (.o 5 1 (ub [129, 5])) := by
  refine pf (by kernel_rfl) (.to mo_ [] [3, 4, 5] [] 0 [nf] (td' := lp fwi 0) (σ' := at_ fwi [(3, .k (.int .u64 5)), (4, .k (.int .u8 0)), (5, ni 8)] []) ?_ (by kernel_rfl))
  refine .to mo_ [] [3, 4, 5] [] 0 [yt, nf] (td' := lp fwi 0) (σ' := at_ fwi [(3, .k (.int .u64 5)), (4, .k (.int .u8 0)), (5, ni 7)] []) ?_ (by kernel_rfl)
  refine .to mo_ [] [3, 4, 5] [] 0 [yt, nf] (td' := lp fwi 0) (σ' := at_ fwi [(3, .k (.int .u64 5)), (4, .k (.int .u8 0)), (5, ni 6)] []) ?_ (by kernel_rfl)
  refine .to mo_ [] [3, 4, 5] [] 0 [yt, nf] (td' := lp fwi 0) (σ' := at_ fwi [(3, .k (.int .u64 5)), (4, .k (.int .u8 0)), (5, ni 5)] []) ?_ (by kernel_rfl)
  refine .to mo_ [] [3, 4, 5] [] 0 [yt, nf] (td' := lp fwi 0) (σ' := at_ fwi [(3, .k (.int .u64 5)), (4, .k (.int .u8 0)), (5, ni 4)] []) ?_ (by kernel_rfl)
  refine .to mo_ [] [3, 4, 5] [] 0 [yt, nf] (td' := lp fwi 0) (σ' := at_ fwi [(3, .k (.int .u64 5)), (4, .k (.int .u8 0)), (5, ni 3)] []) ?_ (by kernel_rfl)
  refine .to mo_ [] [3, 4, 5] [] 0 [yt, nf] (td' := lp fwi 0) (σ' := at_ fwi [(3, .k (.int .u64 5)), (4, .k (.int .u8 0)), (5, ni 2)] []) ?_ (by kernel_rfl)
  refine .to mo_ [] [3, 4, 5] [] 0 [yt, nf] (td' := lp fwi 0) (σ' := at_ fwi [(3, .k (.int .u64 5)), (4, .k (.int .u8 0)), (5, ni 1)] []) ?_ (by kernel_rfl)
  refine .to mo_ [] [3, 4, 6, 7] [0] 1 [yt, yt] (td' := lp fwi 1) (σ' := at_ fwi [(3, .k (.int .u64 5)), (4, .k (.int .u8 0)), (6, .ow 0), (7, ni (0))] [.rw 5 1 (ub [129])]) ?_ (by kernel_rfl)
  refine .to mo_ [.mv 0 2] [3, 4, 6, 7] [0] 1 [yt, .app (ub [129]) (ub [5]) (ub [129, 5]) 100 rfl (by decide) (by decide)] (td' := lp fwi 1) (σ' := at_ fwi [(3, .k (.int .u64 5)), (4, .k (.int .u8 0)), (6, .ow 0), (7, ni (-1))] [.rw 5 1 (ub [129, 5])]) ?_ (by kernel_rfl)
  exact fi [nf] (by kernel_rfl) (by kernel_rfl)
def wi (x : Int) : List Int := if x = 0 then [128] else [129, x]
def Sm (x : Int) : Prop := x = 0 ∨ x = 1 ∨ x = 5
theorem e_wi {x : Int} (h : Sm x) : Pure PP 82 [ni x] (.o 5 1 (ub (wi x))) := by
 rcases h with rfl | rfl | rfl
 · exact e_wi0
 · exact e_wi1
 · exact e_wi5
def wis (l : List Int) : List Int := wi l.length ++ (l.map wi).flatten
theorem wi_len (x : Int) : 1 ≤ (wi x).length ∧ (wi x).length ≤ 2 := by unfold wi; split <;> simp
noncomputable abbrev fws : Func := fnOf PP 49
theorem e_wis {l : List Int} (hl : Sm (l.length : Int)) (hs : ∀ x ∈ l, Sm x) : Pure PP 49 [zl l] (.o 5 1 (ub (wis l))) := by
 have hz := zs_len l
 have hle : l.length ≤ 5 := by rcases hl with h | h | h <;> omega
 let P : Nat → List Int := fun i => wi l.length ++ ((l.take i).map wi).flatten
 let X : Nat → St := fun i => at_ fws [(3, .ow 0), (9, zl l), (10, ni ((zs l).length : Int)), (11, ni i)] [.rw 5 1 (ub (P i))]
 have h0 : P 0 = wi l.length := by simp [P]
 have hn : P l.length = wis l := by simp only [P, wis]; rw [List.take_length]
 have hPl : ∀ i, i ≤ l.length → (P i).length ≤ 2 + 2 * i := fun i => by
  induction i with
  | zero => intro _; rw [h0]; exact (wi_len _).2
  | succ i ih =>
   intro hi
   have hx := num_el (l := l) (i := i) (by omega)
   have e : P (i + 1) = P i ++ wi (l.getD i 0) := by simp only [P]; rw [List.take_add_one, hx]; simp
   have := wi_len (l.getD i 0)
   rw [e, List.length_append]
   have := ih (by omega)
   omega
 refine pf (by kernel_rfl) (.to mo_ [] [3, 9, 10, 11] [0] 1 [.eqv 7 (ni ((zs l).length : Int)) (ni (l.length : Int)) (by rw [hz]), cl (e_wi hl)] (td' := lp fws 0) (σ' := at_ fws [(3, .ow 0), (9, zl l), (10, ni ((zs l).length : Int)), (11, ni 0)] [.rw 5 1 (ub (wi l.length))]) ?_ (by kernel_rfl))
 rw [← h0]
 refine Gd.loop X (fun i => i ≤ l.length) (fun i => l.length - i) ?_ 0 (Nat.zero_le _)
 intro i hi ih
 by_cases h : i < l.length
 · have e := zs_el h
   have hx := num_el h
   have hm : l.getD i 0 ∈ l := dmem h
   have eP : P (i + 1) = P i ++ wi (l.getD i 0) := by simp only [P]; rw [List.take_add_one, hx]; simp
   have h1 := hPl (i + 1) h
   have h2 := wi_len (l.getD i 0)
   exact .to mo_ [.mv 0 2] [3, 9, 10, 11] [0] 1 [ye (t := decide ((i : Int) < ((zs l).length : Int))) (decide_eq_true (by omega)), .sel _ _ _ e, cl (e_wi (hs _ hm)), .app (ub (P i)) (ub (wi (l.getD i 0))) (ub (P (i + 1))) 100 (by rw [ub_app, eP]) (by rw [ub_len]; omega) (by rw [ub_len]; omega), inc 19 i (by omega)] (ih (i + 1) h (by omega)) (by kernel_rfl)
 · have hi2 : i = l.length := by omega
   subst hi2
   rw [← hn]
   exact fi [na (t := decide ((l.length : Int) < ((zs l).length : Int))) (decide_eq_false (by omega))] (by kernel_rfl) (by kernel_rfl)
theorem e_grow {n : Nat} (h : 0 < n ∧ n ≤ 1000) : Pure PP 83 [.nl, ni n] (.o 5 1 []) :=
 tr [na (t := decide ((n : Int) < 0)) (decide_eq_false (by omega)), .nil, .eqv 13 (ni (IntKind.i64.wrap (0 - 0))) (ni 0) rfl, wq 14 ((n : Int) - 0) (n : Int) (by omega), ye (t := decide ((n : Int) > 0)) (decide_eq_true (by omega)), .nil, .nil, .apz n (by omega), .trn (List.replicate n [.k (.int .u8 0)]) [] 0 rfl (Nat.zero_le _)] (by kernel_rfl)
noncomputable abbrev fcc : Func := fnOf PP 51
def rowsU (ls : List (List Int)) : List (List V) := ls.map fun b => [.sl (ub b)]
theorem e_concat {ls : List (List Int)} (h0 : 0 < ls.flatten.length) (h1 : ls.flatten.length ≤ 1000) (hn : ls.length ≤ 1000) (hp : ∀ b ∈ ls, 0 < b.length) : Pure PP 51 [.sl (rowsU ls)] (.o 5 1 (ub ls.flatten)) := by
 have hl : (rowsU ls).length = ls.length := List.length_map ..
 have el : ∀ {i}, i < ls.length → (rowsU ls)[i]? = some [.sl (ub (ls.getD i []))] := fun {i} h => by
  unfold rowsU
  rw [List.getElem?_map, List.getD_eq_getElem?_getD, List.getElem?_eq_getElem h]; rfl
 have hx : ∀ {i}, i < ls.length → ls[i]? = some (ls.getD i []) := fun {i} h => by rw [List.getD_eq_getElem?_getD, List.getElem?_eq_getElem h]; rfl
 let S : Nat → List Int := fun i => (ls.take i).flatten
 have hS : ∀ {i}, i < ls.length → S (i + 1) = S i ++ ls.getD i [] := fun {i} h => by simp only [S]; rw [List.take_add_one, hx h]; simp
 have hSl : ∀ i, (S i).length ≤ ls.flatten.length := fun i => by
  have : ls.flatten = S i ++ (ls.drop i).flatten := by simp only [S]; rw [← List.flatten_append, List.take_append_drop]
  rw [this, List.length_append]; omega
 have hSn : S ls.length = ls.flatten := by simp [S]
 let X : Nat → St := fun i => at_ fcc [(0, .sl (rowsU ls)), (3, ni ((S i).length : Int)), (9, .sl (rowsU ls)), (10, ni ((rowsU ls).length : Int)), (11, ni i)] []
 let Y : Nat → St := fun i => at_ fcc [(6, .ow 0), (25, .sl (rowsU ls)), (26, ni ((rowsU ls).length : Int)), (27, ni i)] [.rw 5 1 (ub (S i))]
 refine pf (by kernel_rfl) (.to mo_ [] [0, 3, 9, 10, 11] [] 0 [] (td' := lp fcc 0) (σ' := X 0) ?_ (by kernel_rfl))
 refine Gd.loop X (fun i => i ≤ ls.length) (fun i => ls.length - i) ?_ 0 (Nat.zero_le _)
 intro i hi ih
 by_cases h : i < ls.length
 · have e := el h
   have hs := hS h
   have h2 := hSl (i + 1)
   rw [hs, List.length_append] at h2
   exact .to mo_ [] [0, 3, 9, 10, 11] [] 0 [ye (t := decide ((i : Int) < ((rowsU ls).length : Int))) (decide_eq_true (by omega)), .sel _ _ _ e, .eqv 17 (ni ((ub (ls.getD i [])).length : Int)) (ni ((ls.getD i []).length : Int)) (by rw [ub_len]), wq 18 (((S i).length : Int) + ((ls.getD i []).length : Int)) ((S (i + 1)).length : Int) (by rw [hs, List.length_append]; omega), na (t := decide (((S (i + 1)).length : Int) < 0)) (decide_eq_false (by omega)), inc 22 i (by omega)] (ih (i + 1) h (by omega)) (by kernel_rfl)
 · have hi2 : i = ls.length := by omega
   subst hi2
   refine .to mo_ [] [6, 25, 26, 27] [0] 1 [na (t := decide ((ls.length : Int) < ((rowsU ls).length : Int))) (decide_eq_false (by omega)), .newr true false _ _ _ _ _ (e_grow (n := (S ls.length).length) (by rw [hSn]; exact ⟨h0, h1⟩)) (fun cs h => by cases h)] (td' := lp fcc 1) (σ' := Y 0) ?_ (by kernel_rfl)
   refine Gd.loop Y (fun i => i ≤ ls.length) (fun i => ls.length - i) ?_ 0 (Nat.zero_le _)
   intro i hi jh
   by_cases g : i < ls.length
   · have e := el g
     have hs := hS g
     have h2 := hSl (i + 1)
     have h3 := hp (ls.getD i []) (List.mem_of_getElem? (hx g))
     exact .to mo_ [.mv 0 1] [6, 25, 26, 27] [0] 1 [ye (t := decide ((i : Int) < ((rowsU ls).length : Int))) (decide_eq_true (by omega)), .sel _ _ _ e, .aps (ub (S i)) (ub (ls.getD i [])) (ub (S (i + 1))) 1000 1 (by rw [ub_app, hs]) (by rw [ub_len]; exact h3) (by rw [ub_len]; omega) (ub_ok _), inc 34 i (by omega)] (jh (i + 1) g (by omega)) (by kernel_rfl)
   · have hi3 : i = ls.length := by omega
     subst hi3
     rw [← hSn]
     exact fi [na (t := decide ((ls.length : Int) < ((rowsU ls).length : Int))) (decide_eq_false (by omega))] (by kernel_rfl) (by kernel_rfl)
/-- The number 0. -/
def zR : List V := [bo false, .sl [], bo false, .sl []]
def by0 : List Int := [129, 1, 128]
theorem sm0 : ∀ x ∈ [(0 : Int)], Sm x := by intro x hx; simp at hx; subst hx; exact .inl rfl
theorem e_ienc0 : Pure PP 84 [.ag [bo false, .sl []]] (.o 5 1 (ub by0)) := by
 have hs : Pure PP 111 [.ag [bo false, .sl []]] (ni 0) := by
  have := e_sign 0
  unfold dI at this
  rw [digs_z rfl] at this
  exact this
 exact tr [cl hs, .ape [] rfl, cl (e_wis (l := [0]) (.inr (.inl rfl)) sm0)] (by kernel_rfl)
noncomputable def fI0 : F_ := .newr false true _ _ _ _ _ e_ienc0 (ub_k _)
theorem e_renc0 : Pure PP 53 [.ag zR] (.o 5 1 (ub (by0 ++ by0))) :=
 tr [fI0, fI0, cl (e_concat (ls := [by0, by0]) (by decide) (by decide) (by decide) (by decide))] (by kernel_rfl)
end Go.Proofs.YthliihpeodohpaaGreatDoor.E.Ca
namespace Go.Proofs.YthliihpeodohpaaGreatDoor.E.Ca
open Go.RowKit
set_option linter.unusedVariables false
set_option linter.unusedSimpArgs false
/-- The example's bytes, with so many of the numbers behind them. -/
def encP (n : Nat) : List Int := [wis [0, 0, 1, 0, 5], wis [], wis [0, 0, 0, 0, 0]].flatten ++ (List.replicate n (by0 ++ by0)).flatten
def k0 : CM := ⟨0, 0, 1, 0, [], zF, 5⟩
noncomputable abbrev fen : Func := fnOf PP 25
theorem sm5 {l : List Int} (h : l.all (fun x => x == 0 || x == 1 || x == 5) = true) : ∀ x ∈ l, Sm x := fun x hx => by
 have := List.all_eq_true.1 h x hx
 simp only [Bool.or_eq_true, beq_iff_eq] at this
 rcases this with (h | h) | h
 · exact .inl h
 · exact .inr (.inl h)
 · exact .inr (.inr h)
noncomputable def fW (l : List Int) (hl : Sm (l.length : Int)) (hs : ∀ x ∈ l, Sm x) : F_ := .newr false true _ _ _ _ _ (e_wis hl hs) (ub_k _)
theorem e_enc0 : Pure PP 25 [.ag (dC k0)] (.o 5 1 (ub (encP 6))) := by
 refine pf (by kernel_rfl) (.to mo_ [] [1, 3, 4, 23, 24, 25] [0] 1 [fW [0, 0, 1, 0, 5] (.inr (.inr rfl)) (sm5 rfl)] (td' := lp fen 0) (σ' := at_ fen [(1, .lp 0 0), (3, .sl (ub (wis [0, 0, 1, 0, 5]))), (4, .nl), (23, .sl []), (24, ni 0), (25, ni 0)] [.bx 45 (dC k0)]) ?_ (by kernel_rfl))
 refine .to mo_ [.mv 1 3] [3, 49, 50] [1] 2 [nf, cl (e_whole zF), fW [] (.inl rfl) (sm5 rfl), .arr, fW [0, 0, 0, 0, 0] (.inr (.inr rfl)) (sm5 rfl), cl (e_concat (ls := [wis [0, 0, 1, 0, 5], wis [], wis [0, 0, 0, 0, 0]]) (by decide) (by decide) (by decide) (by decide)), cl (e_numbersC zF)] (td' := lp fen 1) (σ' := at_ fen [(3, .ow 1), (49, .ag (nuV zF)), (50, ni 0)] [.dead, .rw 5 1 (ub (encP 0))]) ?_ (by kernel_rfl)
 refine .to mo_ [.mv 1 4] [3, 49, 50] [1] 2 [yt, cl e_renc0, .app (ub (encP 0)) (ub (by0 ++ by0)) (ub (encP 1)) 1000 (by rw [ub_app]; rfl) (by decide) (by decide)] (td' := lp fen 1) (σ' := at_ fen [(3, .ow 1), (49, .ag (nuV zF)), (50, ni 1)] [.dead, .rw 5 1 (ub (encP 1))]) ?_ (by kernel_rfl)
 refine .to mo_ [.mv 1 4] [3, 49, 50] [1] 2 [yt, cl e_renc0, .app (ub (encP 1)) (ub (by0 ++ by0)) (ub (encP 2)) 1000 (by rw [ub_app]; rfl) (by decide) (by decide)] (td' := lp fen 1) (σ' := at_ fen [(3, .ow 1), (49, .ag (nuV zF)), (50, ni 2)] [.dead, .rw 5 1 (ub (encP 2))]) ?_ (by kernel_rfl)
 refine .to mo_ [.mv 1 4] [3, 49, 50] [1] 2 [yt, cl e_renc0, .app (ub (encP 2)) (ub (by0 ++ by0)) (ub (encP 3)) 1000 (by rw [ub_app]; rfl) (by decide) (by decide)] (td' := lp fen 1) (σ' := at_ fen [(3, .ow 1), (49, .ag (nuV zF)), (50, ni 3)] [.dead, .rw 5 1 (ub (encP 3))]) ?_ (by kernel_rfl)
 refine .to mo_ [.mv 1 4] [3, 49, 50] [1] 2 [yt, cl e_renc0, .app (ub (encP 3)) (ub (by0 ++ by0)) (ub (encP 4)) 1000 (by rw [ub_app]; rfl) (by decide) (by decide)] (td' := lp fen 1) (σ' := at_ fen [(3, .ow 1), (49, .ag (nuV zF)), (50, ni 4)] [.dead, .rw 5 1 (ub (encP 4))]) ?_ (by kernel_rfl)
 refine .to mo_ [.mv 1 4] [3, 49, 50] [1] 2 [yt, cl e_renc0, .app (ub (encP 4)) (ub (by0 ++ by0)) (ub (encP 5)) 1000 (by rw [ub_app]; rfl) (by decide) (by decide)] (td' := lp fen 1) (σ' := at_ fen [(3, .ow 1), (49, .ag (nuV zF)), (50, ni 5)] [.dead, .rw 5 1 (ub (encP 5))]) ?_ (by kernel_rfl)
 refine .to mo_ [.mv 1 4] [3, 49, 50] [1] 2 [yt, cl e_renc0, .app (ub (encP 5)) (ub (by0 ++ by0)) (ub (encP 6)) 1000 (by rw [ub_app]; rfl) (by decide) (by decide)] (td' := lp fen 1) (σ' := at_ fen [(3, .ow 1), (49, .ag (nuV zF)), (50, ni 6)] [.dead, .rw 5 1 (ub (encP 6))]) ?_ (by kernel_rfl)
 exact fi [nf] (by kernel_rfl) (by kernel_rfl)
noncomputable def k1 : CM := ⟨1, 0, 2, 1, [(0, 0)], (fitQ [] 0).fm, 0⟩
def k2 : CM := ⟨2, 0, 3, 3, [(0, 0)], zF, 0⟩
def k3 : CM := ⟨0, 1, 4, 3, [(2, 0)], zF, 0⟩
noncomputable def l4 : List CM := [k0, k1, k2, k3]
theorem e_four : Pure PP 35 [] (.sl (l4.map dC)) := tr [.ro, cl (e_fit (l := []) (fun x h => by cases h) 0 (by omega)), .ro, .ro] (by kernel_rfl)
section
variable {l : List Int} {i : Nat}
theorem one_turn (r : Int) : oneB (turnQ r).1 (turnQ r).2 = true := by
 unfold turnQ oneB
 split
 · decide +kernel
 · split
   · decide +kernel
   · split
     · decide +kernel
     · split
       · decide +kernel
       · split <;> decide +kernel
theorem cmp_add (r : Rat) {k : Int} (hk : 0 ≤ k) : decide (cmpQ r (r + Rat.divInt k 2) ≤ 0) = true := by
 have h1 : (0 : Rat) ≤ Rat.divInt k 2 := Rat.divInt_nonneg hk (by omega)
 have h : r ≤ r + Rat.divInt k 2 := by grind
 refine decide_eq_true ?_
 unfold cmpQ
 split
 · decide
 · rw [if_neg (by grind)]; decide
theorem cmp_self (r : Rat) : decide (cmpQ r r ≤ 0) = true := by
 refine decide_eq_true ?_
 unfold cmpQ
 rw [if_neg (by grind), if_neg (by grind)]; decide
theorem edge_in {x : Int} (h : 0 ≤ x ∧ x < 12) : edgeB x = true := by unfold edgeB; simp; omega
theorem fit_ok (l : List Int) (i : Nat) : fitsB (fitQ l i).fm true = true := by
 have h0 := atz_in l i 2
 have h1 := atz_in l (i + 1) 1
 have h2 := atz_in l (i + 2) 11
 have h3 := atz_in l (i + 3) 11
 have h4 := atz_in l (i + 4) 2
 have h8 := atz_in l (i + 8) 2
 have hB : (nu (fitQ l i).fm).any (badR true) = false := by
  rw [List.any_eq_false]
  intro n hn
  have : okB n = true := by
   simp only [nu, FQ.fm, List.mem_cons, List.not_mem_nil, or_false] at hn
   rcases hn with rfl | rfl | rfl | rfl | rfl | rfl <;> exact okB_ofR _
  simp [badR, this]
 unfold fitsB
 rw [hB]
 show needB _ = true
 simp only [needB, FQ.fm, q_ofR, fitQ, one_turn, cmp_self]
 rw [cmp_add _ h8.1, edge_in (by omega), edge_in (by omega), edge_in (by omega)]
 simp
 refine ⟨⟨⟨h0.1, decide_eq_true (by omega)⟩, decide_eq_true (by omega)⟩, by omega⟩
theorem zF_ok : fitsB zF false = true := by
 have hB : (nu zF).any (badR false) = false := by
  rw [List.any_eq_false]
  intro n hn
  have e : n = ofR 0 := by
   simp only [nu, zF, List.mem_cons, List.not_mem_nil, or_false] at hn
   rw [ofR_0]
   rcases hn with h | h | h | h | h | h <;> exact h
  subst e
  unfold badR
  rw [okB_ofR, q_ofR]
  decide
 unfold fitsB
 rw [hB]
 decide
theorem bq_bn {k : Nat} {r : Rat} (h : Bq k r) : Bn k (ofR r) := by
 refine ⟨fun _ => ?_, fun _ => ?_⟩
 · show I.Bd k (I.val (digs r.num.natAbs))
   rw [(digs_ok _).2]
   have := h.1
   unfold I.Bd at *
   simpa using this
 · show I.Bd k (I.val (digs (dq r).natAbs))
   rw [(digs_ok _).2]
   have := bd_dq h
   unfold I.Bd at *
   simpa using this
theorem turn_bits (r : Int) : Bq 7 (turnQ r).1 ∧ Bq 7 (turnQ r).2 := by
 have h : ∀ x y : Int, -100 ≤ x ∧ x ≤ 100 → 1 ≤ y ∧ y ≤ 100 → Bq 7 (Rat.divInt x y) := fun x y hx hy => Bq.divInt (bd7 hx.1 hx.2) (bd7 (by omega) hy.2) (by omega)
 have h0 : Bq 7 0 := by rw [show (0 : Rat) = Rat.divInt 0 1 from rfl]; exact h 0 1 (by omega) (by omega)
 unfold turnQ
 split
 · exact ⟨h 1 1 (by omega) (by omega), h0⟩
 · split
   · exact ⟨h0, h 1 1 (by omega) (by omega)⟩
   · split
     · exact ⟨h (-1) 1 (by omega) (by omega), h0⟩
     · split
       · exact ⟨h0, h (-1) 1 (by omega) (by omega)⟩
       · split
         · exact ⟨h 3 5 (by omega) (by omega), h 4 5 (by omega) (by omega)⟩
         · exact ⟨h (-5) 13 (by omega) (by omega), h 12 13 (by omega) (by omega)⟩
theorem fit_bits (l : List Int) (i : Nat) : FBits 100 (fitQ l i).fm := by
 have h8 := atz_in l (i + 8) 2
 have t := turn_bits (rnd (atz l (i + 5) 5) 5)
 have s2 := small_bits (atz l (i + 6) 999)
 have s3 := small_bits (atz l (i + 7) 999)
 have s4 := s2.add (Bq.divInt (bd7 (x := atz l (i + 8) 2) (by omega) (by omega)) (bd7 (x := 2) (by omega) (by omega)) (by omega))
 intro n hn
 simp only [nu, FQ.fm, fitQ, List.mem_cons, List.not_mem_nil, or_false] at hn
 rcases hn with rfl | rfl | rfl | rfl | rfl | rfl
 · exact bq_bn (t.1.mono (by omega))
 · exact bq_bn (t.2.mono (by omega))
 · exact bq_bn (s2.mono (by omega))
 · exact bq_bn (s3.mono (by omega))
 · exact bq_bn (s4.mono (by omega))
 · exact bq_bn (s3.mono (by omega))
theorem zF_bits : FBits 100 zF := by
 intro n hn
 have e : n = ofR 0 := by
  simp only [nu, zF, List.mem_cons, List.not_mem_nil, or_false] at hn
  rw [ofR_0]
  rcases hn with h | h | h | h | h | h <;> exact h
 subst e
 exact bq_bn ((turn_bits 0).2.mono (by omega))
end
theorem v_of {c : CM} {fb nd : Bool} {lo hi : Int} {wt : Bool} (h : decide (((rfs c.refs).length : Int) > 16) = false) (g : headB c = false) (hk : (match c.kind with | 0 => okI (bodyP c.refs c.w (fitsB c.fit false) 0 0 true) | 1 => okI (bodyP c.refs c.w (fitsB c.fit true) 1 16 false) | 2 => okI (bodyP c.refs c.w (fitsB c.fit false) 2 16 false) | _ => okI (bodyP c.refs c.w (fitsB c.fit false) 1 16 false)) = 0) : validI c = 0 := by
 unfold validI
 rw [h, g]
 exact hk
theorem v_k0 : validI k0 = 0 := v_of (fb := true) (nd := true) (lo := 0) (hi := 0) (wt := true) rfl (by decide +kernel) (by show okI (bodyP [] 5 (fitsB zF false) 0 0 true) = 0; rw [zF_ok]; decide)
theorem v_k1 : validI k1 = 0 := v_of (fb := true) (nd := true) (lo := 0) (hi := 0) (wt := true) rfl (by decide +kernel) (by show okI (bodyP [(0, 0)] 0 (fitsB (fitQ [] 0).fm true) 1 16 false) = 0; rw [fit_ok]; decide)
theorem v_k2 : validI k2 = 0 := v_of (fb := true) (nd := true) (lo := 0) (hi := 0) (wt := true) rfl (by decide +kernel) (by show okI (bodyP [(0, 0)] 0 (fitsB zF false) 1 16 false) = 0; rw [zF_ok]; decide)
theorem v_k3 : validI k3 = 0 := v_of (fb := true) (nd := true) (lo := 0) (hi := 0) (wt := true) rfl (by decide +kernel) (by show okI (bodyP [(2, 0)] 0 (fitsB zF false) 1 16 false) = 0; rw [zF_ok]; decide)
noncomputable abbrev fsb : Func := fnOf PP 37
theorem e_sameB (a b : List Bool) (hn : a.length ≤ 1000) : Pure PP 37 [.sl (bV a), .sl (bV b)] (bo (decide (a = b))) := by
 by_cases hl : a.length = b.length
 · let X : Nat → St := fun i => at_ fsb [(0, .sl (bV a)), (1, .sl (bV b)), (5, ni i)] []
   refine pf (by kernel_rfl) (.to mo_ [] [0, 1, 5] [] 0 [na (t := ((bV a).length : Int) != ((bV b).length : Int)) (by simp [bV, hl])] (td' := lp fsb 0) (σ' := X 0) ?_ (by kernel_rfl))
   refine Gd.loop X (fun i => i ≤ a.length ∧ a.take i = b.take i) (fun i => a.length - i) ?_ 0 ⟨Nat.zero_le _, rfl⟩
   intro i ⟨hi, hI⟩ ih
   have hlt : ∀ h : i < a.length, decide ((i : Int) < ((bV a).length : Int)) = true := fun h => decide_eq_true (by rw [bV_len]; omega)
   by_cases h : i < a.length
   · obtain ⟨x, hx, _⟩ := get_of h
     obtain ⟨y, hy, _⟩ := get_of (l := b) (i := i) (by omega)
     by_cases e : x = y
     · exact .to mo_ [] [0, 1, 5] [] 0 [ye (hlt h), .sel _ _ _ (bV_at hx), .sel _ _ _ (bV_at hy), na (t := x != y) (by simp [e]), inc 16 i (by omega)] (ih (i + 1) ⟨h, take_step hI hx hy e⟩ (by omega)) (by kernel_rfl)
     · rw [show decide (a = b) = false from decide_eq_false (ne_at hx hy e)]
       exact fi [ye (hlt h), .sel _ _ _ (bV_at hx), .sel _ _ _ (bV_at hy), ye (t := x != y) (by simp [e])] (by kernel_rfl) (by kernel_rfl)
   · rw [show decide (a = b) = true from decide_eq_true (eq_of_take hI h hl)]
     exact fi [na (t := decide ((i : Int) < ((bV a).length : Int))) (decide_eq_false (by rw [bV_len]; omega))] (by kernel_rfl) (by kernel_rfl)
 · rw [show decide (a = b) = false from decide_eq_false fun e => hl (by rw [e])]
   exact tr [ye (t := ((bV a).length : Int) != ((bV b).length : Int)) (by simp [bV]; omega)] (by kernel_rfl)
theorem eV {f : FuncId} {ds : List V} {x y : Int} (h : Pure PP f ds (ni x)) (e : x = y) : Pure PP f ds (ni y) := e ▸ h
theorem eO {f : FuncId} {ds : List V} {T z : Nat} {x y : List Bool} (h : Pure PP f ds (.o T z (bV x))) (e : x = y) : Pure PP f ds (.o T z (bV y)) := e ▸ h
theorem bel4 : believedL l4 = [true, true, false, true] := by decide +kernel
theorem bel3 : believedL (l4.take 3) = [false, true, true] := by decide +kernel
noncomputable abbrev flv : Func := fnOf PP 13
theorem len35 : ∀ cs ∈ l4.map dC, cs.length = 35 := fun cs h => (dC_ok _ cs h).1
theorem e_lives15 : Pure PP 13 [] (bo true) := by
 let X : Nat → St := fun i => at_ flv [(1, .sl (l4.map dC)), (2, .sl (ub (encP 6))), (3, ni i)] []
 have s0 : (l4.map dC)[0]? = some (dC k0) := rfl
 have s1 : (l4.map dC)[1]? = some (dC k1) := rfl
 have s2 : (l4.map dC)[2]? = some (dC k2) := rfl
 have s3 : (l4.map dC)[3]? = some (dC k3) := rfl
 have w0 := eV (e_cvalid (c := k0) zF_bits (by omega)) v_k0
 have w1 := eV (e_cvalid (c := k1) (fit_bits [] 0) (by omega)) v_k1
 have w2 := eV (e_cvalid (c := k2) zF_bits (by omega)) v_k2
 have w3 := eV (e_cvalid (c := k3) zF_bits (by omega)) v_k3
 refine pf (by kernel_rfl) (.to mo_ [] [1, 2, 3] [] 0 [cl e_four, .sel _ _ _ s0, .newr false true _ _ _ _ _ e_enc0 (ub_k _)] (td' := lp flv 0) (σ' := X 0) ?_ (by kernel_rfl))
 refine .to mo_ [] [1, 2, 3] [] 0 [yt, .sel _ _ _ s0, cl w0, nf] (td' := lp flv 0) (σ' := X 1) ?_ (by kernel_rfl)
 refine .to mo_ [] [1, 2, 3] [] 0 [yt, .sel _ _ _ s1, cl w1, nf] (td' := lp flv 0) (σ' := X 2) ?_ (by kernel_rfl)
 refine .to mo_ [] [1, 2, 3] [] 0 [yt, .sel _ _ _ s2, cl w2, nf] (td' := lp flv 0) (σ' := X 3) ?_ (by kernel_rfl)
 refine .to mo_ [] [1, 2, 3] [] 0 [yt, .sel _ _ _ s3, cl w3, nf] (td' := lp flv 0) (σ' := X 4) ?_ (by kernel_rfl)
 exact fi [nf, cl (eO (e_believed (L := l4) (by decide)) bel4), cl (e_sameB [true, true, false, true] [true, true, false, true] (by decide)), yt, .slc (l4.map dC) 0 3 35 ((l4.take 3).map dC) rfl (by decide) len35, cl (eO (e_believed (L := l4.take 3) (by decide)) bel3), cl (e_sameB [false, true, true] [false, true, true] (by decide)), yt, yt, .slc (ub (encP 6)) 0 10 1 (byL [129, 5, 128, 128, 129, 1, 128, 129, 5, 128]) rfl (by decide) (fun cs h => (ub_ok _ cs h).1), .str _ [129, 5, 128, 128, 129, 1, 128, 129, 5, 128] rfl, yt, cl (e_find l4 (2, 0)), yt, .sel _ _ _ s2, .sel _ _ _ s3, cl (e_before k2 k3), yt, .sel _ _ _ s3, .sel _ _ _ s3, cl (e_before k3 k3)] (by kernel_rfl) (by kernel_rfl)
end Go.Proofs.YthliihpeodohpaaGreatDoor.E.Ca
namespace Go.Proofs.YthliihpeodohpaaGreatDoor.W
open Go.RowKit
/-- A length at the beginning, of elements of at least so many bytes. -/
def cnt (l : List UInt8) (size : Nat) : Int × Nat × Int :=
 if (dec l).2.2 ≠ 0 then dec l
 else if (dec l).1 < 0 then ((dec l).1, (dec l).2.1, 2)
 else if ((l.length - (dec l).2.1) / size : Nat) < (dec l).1 then ((dec l).1, (dec l).2.1, 3)
 else dec l
theorem dec_at_le (l : List UInt8) : (dec l).2.1 ≤ l.length := by
 rcases hd : dec l with ⟨n, u, e⟩
 rcases dec_err hd with rfl | ⟨_, rfl, _⟩
 ·exact (dec_ok hd).2.1
 ·simp
theorem dec_at_le9 (l : List UInt8) : (dec l).2.1 ≤ 9 := by
 rcases hd : dec l with ⟨n, u, e⟩
 rcases dec_err hd with rfl | ⟨_, rfl, _⟩
 ·have := (dec_ok hd).2.2.2
  have := (enc_le n).2
  simp; omega
 ·simp
theorem dec_range (l : List UInt8) : Is64 (dec l).1 := by
 rcases hd : dec l with ⟨n, u, e⟩
 rcases dec_err hd with rfl | ⟨rfl, _, _⟩
 ·exact (dec_ok hd).1
 ·unfold Is64; simp
/-- A count that went well. -/
theorem cnt_ok {l : List UInt8} {size : Nat} (h : (cnt l size).2.2 = 0) : cnt l size = dec l ∧ (dec l).2.2 = 0 ∧ 0 ≤ (dec l).1 ∧ (dec l).1 ≤ ((l.length - (dec l).2.1) / size : Nat) := by
 unfold cnt at h ⊢
 by_cases h1 : (dec l).2.2 ≠ 0
 ·rw [if_pos h1] at h; exact absurd h h1
 rw [if_neg h1] at h ⊢
 by_cases h2 : (dec l).1 < 0
 ·rw [if_pos h2] at h; simp at h
 rw [if_neg h2] at h ⊢
 by_cases h3 : ((l.length - (dec l).2.1) / size : Nat) < (dec l).1
 ·rw [if_pos h3] at h; simp at h
 rw [if_neg h3] at h ⊢
 exact ⟨rfl, by simpa using h1, by omega, by omega⟩
/-- Decoding so many elements, one after the other. -/
def seqD {α : Type} (d : List UInt8 → α × Nat × Int) (b : List UInt8) : Nat → Nat → List α → List α × Nat × Int
 | 0, at_, acc => (acc, at_, 0)
 | k + 1, at_, acc => if (d (b.drop at_)).2.2 ≠ 0 then ([], 0, (d (b.drop at_)).2.2) else seqD d b k (at_ + (d (b.drop at_)).2.1) (acc ++ [(d (b.drop at_)).1])
def decL {α : Type} (d : List UInt8 → α × Nat × Int) (l : List UInt8) : List α × Nat × Int :=
 if (cnt l 1).2.2 ≠ 0 then ([], 0, (cnt l 1).2.2) else seqD d l (cnt l 1).1.toNat (cnt l 1).2.1 []
def decI (l : List UInt8) : List Int × Nat × Int := decL dec l
theorem cnt_bound {l : List UInt8} {size : Nat} (h : (cnt l size).2.2 = 0) : ∃ n : Nat, (cnt l size).1 = (n : Int) ∧ n * size + (cnt l size).2.1 ≤ l.length ∧ (cnt l size).2.1 ≤ 9 := by
 obtain ⟨h1, h2, h3, h4⟩ := cnt_ok h
 rw [h1]
 have h5 := dec_at_le l
 have h9 := dec_at_le9 l
 refine ⟨(dec l).1.toNat, by omega, ?_, h9⟩
 have h6 : (dec l).1.toNat ≤ (l.length - (dec l).2.1) / size := by omega
 have h7 := Nat.mul_le_mul_right size h6
 have h8 := Nat.div_mul_le_self (l.length - (dec l).2.1) size
 omega
end Go.Proofs.YthliihpeodohpaaGreatDoor.W
