/-
 CLAIMS: Believed, Find, by the engine (printed by gen/can.py).
-/
import Derived.Test.YthliihpeodohpaaGreatDoorCaK
namespace Go.Proofs.YthliihpeodohpaaGreatDoor.E.Ca
open Go.RowKit
set_option linter.unusedVariables false
set_option linter.unusedSimpArgs false
def swp (xs : List Int) (j : Nat) : List Int := (xs.set (j + 1) (xs.getD j 0)).set j (xs.getD (j + 1) 0)
def insJ (cv : Int → Int → Int) : Nat → List Int → List Int
 | 0, xs => xs
 | j + 1, xs => if cv (xs.getD (j + 1) 0) (xs.getD j 0) < 0 then insJ cv j (swp xs j) else xs
def isF (cv : Int → Int → Int) (xs : List Int) : Nat → List Int
 | 0 => xs
 | i + 1 => insJ cv i (isF cv xs i)
theorem swp_len (xs : List Int) (j : Nat) : (swp xs j).length = xs.length := by unfold swp; simp
theorem insJ_len (cv : Int → Int → Int) : ∀ (j : Nat) (xs : List Int), (insJ cv j xs).length = xs.length
 | 0, xs => rfl
 | j + 1, xs => by
  unfold insJ
  split
  · rw [insJ_len cv j, swp_len]
  · rfl
theorem isF_len (cv : Int → Int → Int) (xs : List Int) : ∀ i, (isF cv xs i).length = xs.length
 | 0 => rfl
 | i + 1 => by unfold isF; rw [insJ_len, isF_len cv xs i]
theorem mem_swp {xs : List Int} {j : Nat} (h : j + 1 < xs.length) {a : Int} (ha : a ∈ swp xs j) : a ∈ xs := by
 unfold swp at ha
 have e1 : xs.getD j 0 ∈ xs := by rw [List.getD_eq_getElem?_getD, List.getElem?_eq_getElem (by omega)]; exact List.getElem_mem _
 have e2 : xs.getD (j + 1) 0 ∈ xs := by rw [List.getD_eq_getElem?_getD, List.getElem?_eq_getElem h]; exact List.getElem_mem _
 rcases List.mem_or_eq_of_mem_set ha with h1 | h1
 · rcases List.mem_or_eq_of_mem_set h1 with h2 | h2
   · exact h2
   · rw [h2]; exact e1
 · rw [h1]; exact e2
theorem mem_insJ (cv : Int → Int → Int) : ∀ (j : Nat) {xs : List Int}, j < xs.length → ∀ {a : Int}, a ∈ insJ cv j xs → a ∈ xs
 | 0, xs, _, a, ha => ha
 | j + 1, xs, h, a, ha => by
  unfold insJ at ha
  split at ha
  · exact mem_swp h (mem_insJ cv j (by rw [swp_len]; omega) ha)
  · exact ha
theorem mem_isF (cv : Int → Int → Int) (xs : List Int) : ∀ i, i ≤ xs.length → ∀ {a : Int}, a ∈ isF cv xs i → a ∈ xs
 | 0, _, a, ha => ha
 | i + 1, h, a, ha => mem_isF cv xs i (by omega) (mem_insJ cv i (by rw [isF_len]; omega) ha)
section
variable {G : FuncId} {c1 : List V} {cv : Int → Int → Int} {xs ys : List Int} {i j n : Nat}
/-- The comparison is told for the elements. -/
def Cmp (G : FuncId) (c1 : List V) (cv : Int → Int → Int) (xs : List Int) : Prop := ∀ x ∈ xs, ∀ y ∈ xs, Pure PP G [ni x, ni y, .ip c1] (ni (cv x y))
theorem Cmp.sub (h : Cmp G c1 cv xs) (hs : ∀ a ∈ ys, a ∈ xs) : Cmp G c1 cv ys := fun x hx y hy => h x (hs x hx) y (hs y hy)
theorem dmem (h : i < xs.length) : xs.getD i 0 ∈ xs := by rw [List.getD_eq_getElem?_getD, List.getElem?_eq_getElem h]; exact List.getElem_mem _
noncomputable abbrev fis : Func := fnOf PP 126
noncomputable def XI (G : FuncId) (c1 : List V) (n : Nat) (xs : List Int) (i : Nat) : St := at_ fis [(0, .ow 0), (1, ni 0), (2, ni n), (3, .cl G [.ip c1]), (8, ni i)] [.rw 3 1 (zs xs)]
noncomputable def YI (G : FuncId) (c1 : List V) (n : Nat) (xs : List Int) (i j : Nat) : St := at_ fis [(0, .ow 0), (1, ni 0), (2, ni n), (3, .cl G [.ip c1]), (8, ni i), (9, ni j)] [.rw 3 1 (zs xs)]
abbrev DI (ys : List Int) : RD := .io 1 [.rw 3 1 (zs ys)] (.tu [])
abbrev GIs (ys : List Int) (td : List Item) (σ : St) : Prop := Gd PP 126 (DI ys) td σ
/-- The inner loop. -/
theorem is_in (hn : n ≤ 1000) (hi : i < n) : ∀ (j : Nat) (xs : List Int), j ≤ i → xs.length = n → Cmp G c1 cv xs → GIs ys (lp fis 0) (XI G c1 n (insJ cv j xs) (i + 1)) → GIs ys (lp fis 1) (YI G c1 n xs i j)
 | 0, xs, hj, hx, hc, next => .to mo_ [] [0, 1, 2, 3, 8] [0] 1 [na (t := decide (((0 : Nat) : Int) > 0)) rfl, nf, inc 16 i (by omega)] next (by kernel_rfl)
 | j + 1, xs, hj, hx, hc, next => by
  have e1 := zs_el (l := xs) (i := j + 1) (by omega)
  have e0 := zs_el (l := xs) (i := j) (by omega)
  have hcc := hc _ (dmem (xs := xs) (i := j + 1) (by omega)) _ (dmem (xs := xs) (i := j) (by omega))
  have hgt : decide (((j + 1 : Nat) : Int) > 0) = true := decide_eq_true (by omega)
  let F : List F_ := [ye hgt, .sel _ _ _ e1, .sel _ _ _ e1, wq 29 (((j + 1 : Nat) : Int) - 1) (j : Int) (by omega), .sel _ _ _ e0, .sel _ _ _ e0, cl hcc]
  by_cases h : cv (xs.getD (j + 1) 0) (xs.getD j 0) < 0
  · have hs : insJ cv (j + 1) xs = insJ cv j (swp xs j) := by show (if _ then _ else _) = _; rw [if_pos h]
    rw [hs] at next
    have e3 : (zs (xs.set (j + 1) (xs.getD j 0)))[j]? = some [ni (xs.getD j 0)] := by rw [← zs_set, List.getElem?_set_ne (by omega)]; exact e0
    have rec_ := is_in hn hi j (swp xs j) (by omega) (by rw [swp_len]; exact hx) (hc.sub fun a ha => mem_swp (by omega) ha) next
    exact .to mo_ [] [0, 1, 2, 3, 8, 9] [0] 1 (F ++ [ye (t := decide (cv (xs.getD (j + 1) 0) (xs.getD j 0) < 0)) (decide_eq_true h), wq 41 (((j + 1 : Nat) : Int) - 1) (j : Int) (by omega), wq 44 (((j + 1 : Nat) : Int) - 1) (j : Int) (by omega), .sel _ _ _ e0, .sel _ _ _ e0, .sel _ _ _ e1, .sel _ _ _ e1, .sel _ _ _ e1, .upd _ _ _ [ni (xs.getD j 0)] (zs (xs.set (j + 1) (xs.getD j 0))) e1 (zs_set _ _ _), .sel _ _ _ e3, .upd _ _ _ [ni (xs.getD (j + 1) 0)] (zs (swp xs j)) e3 (zs_set _ _ _), wq 36 (((j + 1 : Nat) : Int) - 1) (j : Int) (by omega)]) rec_ (by kernel_rfl)
  · have hs : insJ cv (j + 1) xs = xs := by show (if _ then _ else _) = _; rw [if_neg h]
    rw [hs] at next
    exact .to mo_ [] [0, 1, 2, 3, 8] [0] 1 (F ++ [na (t := decide (cv (xs.getD (j + 1) 0) (xs.getD j 0) < 0)) (decide_eq_false h), inc 16 i (by omega)]) next (by kernel_rfl)
theorem e_isort (hn : xs.length = n) (h1 : 1 ≤ n ∧ n ≤ 1000) (hc : Cmp G c1 cv xs) : PureT PP 126 [.rw 3 1 (zs xs)] [.ow 0, ni 0, ni n, .cl G [.ip c1]] (DI (isF cv xs n)) := by
 refine pfT (by kernel_rfl) (.to mo_ [] [0, 1, 2, 3, 8] [0] 1 [.eqv 11 (ni (IntKind.i64.wrap (0 + 1))) (ni (1 : Nat)) rfl] (td' := lp fis 0) (σ' := XI G c1 n xs 1) ?_ (by kernel_rfl))
 refine Gd.loop (fun x : Nat × List Int => XI G c1 n x.2 x.1) (fun x => 1 ≤ x.1 ∧ x.1 ≤ n ∧ x.2 = isF cv xs x.1) (fun x => n - x.1) ?_ (1, xs) ⟨Nat.le_refl _, h1.1, rfl⟩
 rintro ⟨i, zs'⟩ ⟨hi1, hi, ho⟩ ih
 simp only at hi1 hi ho
 subst ho
 by_cases h : i < n
 · refine .to mo_ [] [0, 1, 2, 3, 8, 9] [0] 1 [ye (t := decide ((i : Int) < (n : Int))) (decide_eq_true (by omega))] (td' := lp fis 1) (σ' := YI G c1 n (isF cv xs i) i i) ?_ (by kernel_rfl)
   exact is_in h1.2 h i _ (Nat.le_refl _) (by rw [isF_len]; exact hn) (hc.sub fun a ha => mem_isF cv xs i (by omega) ha) (ih (i + 1, isF cv xs (i + 1)) ⟨by omega, h, rfl⟩ (by simp only; omega))
 · rw [show n = i by omega]
   exact fi [na (t := decide ((i : Int) < (i : Int))) (decide_eq_false (by omega))] (by kernel_rfl) (by kernel_rfl)
end
end Go.Proofs.YthliihpeodohpaaGreatDoor.E.Ca
namespace Go.Proofs.YthliihpeodohpaaGreatDoor.E.Ca
open Go.RowKit
set_option linter.unusedVariables false
set_option linter.unusedSimpArgs false
section
variable {G : FuncId} {c1 : List V} {cv : Int → Int → Int} {xs ys : List Int} {i j n : Nat}
theorem e_isort0 : PureT PP 126 [.rw 3 1 []] [.ow 0, ni 0, ni 0, .cl G [.ip c1]] (DI []) := by
 refine pfT (by kernel_rfl) (.to mo_ [] [0, 1, 2, 3, 8] [0] 1 [.eqv 11 (ni (IntKind.i64.wrap (0 + 1))) (ni (1 : Nat)) rfl] (td' := lp fis 0) (σ' := XI G c1 0 [] 1) ?_ (by kernel_rfl))
 exact fi [nf] (by kernel_rfl) (by kernel_rfl)
theorem e_isortN (hn : xs.length = n) (h1 : n ≤ 1000) (hc : Cmp G c1 cv xs) : PureT PP 126 [.rw 3 1 (zs xs)] [.ow 0, ni 0, ni n, .cl G [.ip c1]] (DI (isF cv xs n)) := by
 by_cases h : n = 0
 · subst h
   have h0 := List.length_eq_zero_iff.1 hn
   subst h0
   exact e_isort0
 · exact e_isort hn (by omega) hc
noncomputable abbrev fst_ : Func := fnOf PP 95
theorem e_stable (hn : xs.length = n) (h1 : n ≤ 19) (hc : Cmp G c1 cv xs) : PureT PP 95 [.rw 3 1 (zs xs)] [.ow 0, ni n, .cl G [.ip c1]] (DI (isF cv xs n)) := by
 let X : List Int → St := fun ys => at_ fst_ [(0, .ow 0), (1, ni n), (2, .cl G [.ip c1]), (6, ni 20), (7, ni 0), (8, ni 20)] [.rw 3 1 (zs ys)]
 refine pfT (by kernel_rfl) (.to mo_ [] [0, 1, 2, 6, 7, 8] [0] 1 [] (td' := lp fst_ 0) (σ' := X xs) ?_ (by kernel_rfl))
 refine .to mo_ [] [0, 1, 2, 6, 7, 8] [0] 1 [na (t := decide ((20 : Int) ≤ (n : Int))) (decide_eq_false (by omega)), .lend _ _ _ _ [0] (e_isortN hn (by omega) hc)] (td' := lp fst_ 1) (σ' := X (isF cv xs n)) ?_ (by kernel_rfl)
 exact fi [na (t := decide ((20 : Int) < (n : Int))) (decide_eq_false (by omega))] (by kernel_rfl) (by kernel_rfl)
theorem e_sortStable (h1 : xs.length ≤ 19) (hc : Cmp G c1 cv xs) : PureT PP 61 [.rw 3 1 (zs xs)] [.ow 0, .cl G [.ip c1]] (DI (isF cv xs xs.length)) :=
 trT [.eqv 6 (ni ((zs xs).length : Int)) (ni (xs.length : Int)) (by rw [zs_len]), .lend _ _ _ _ [0] (e_stable rfl h1 hc)] (by kernel_rfl)
end
end Go.Proofs.YthliihpeodohpaaGreatDoor.E.Ca
namespace Go.Proofs.YthliihpeodohpaaGreatDoor.E.Ca
open Go.RowKit
set_option linter.unusedVariables false
set_option linter.unusedSimpArgs false
section
variable {L : List CM} {i j k n : Nat} {bs : List Bool}
noncomputable abbrev fe_idxI : Func := fnOf PP 96
theorem e_idxI {G : FuncId} {c0 c1 c2 : List V} {bad : Int → Bool} (L : List Int) (hc : ∀ a ∈ L, Pure PP G [ni a, .ip c0, .ip c1, .ip c2] (bo (bad a))) : Pure PP 96 [.sl (L.map ci), .cl G [.ip c0, .ip c1, .ip c2]] (ni (fidx bad L)) := by
 refine .len 0 (l := L.map ci) (by kernel_rfl) rfl fun hm => ?_
 rw [List.length_map] at hm
 unfold maxLen at hm
 let X : Nat → St := fun i => at_ fe_idxI [(0, .sl (L.map ci)), (1, .cl G [.ip c0, .ip c1, .ip c2]), (7, ni ((L.map ci).length : Int)), (8, ni i)] []
 refine pf (by kernel_rfl) (.to mo_ [] [0, 1, 7, 8] [] 0 [] (td' := lp fe_idxI 0) (σ' := X 0) ?_ (by kernel_rfl))
 refine Gd.loop X (fun i => i ≤ L.length ∧ ∀ t b, t < i → L[t]? = some b → bad b = false) (fun i => L.length - i) ?_ 0 ⟨Nat.zero_le _, no_zero⟩
 intro i ⟨hi, hI⟩ ih
 by_cases h : i < L.length
 · obtain ⟨a, ha, hma⟩ := get_of h
   have hlt : decide ((i : Int) < ((L.map ci).length : Int)) = true := decide_eq_true (by rw [List.length_map]; omega)
   have hcc := hc a hma
   cases hb : bad a with
   | true =>
     rw [hb] at hcc
     rw [fidx_at hI ha hb]
     exact fi [ye hlt, .sel _ _ _ (sel_map (f := ci) ha), cl hcc, yt] (by kernel_rfl) (by kernel_rfl)
   | false =>
     rw [hb] at hcc
     exact .to mo_ [] [0, 1, 7, 8] [] 0 [ye hlt, .sel _ _ _ (sel_map (f := ci) ha), cl hcc, nf, inc 18 i (by omega)] (ih (i + 1) ⟨h, no_step hI ha hb⟩ (by omega)) (by kernel_rfl)
 · rw [fidx_no hI h]
   exact fi [na (t := decide ((i : Int) < ((L.map ci).length : Int))) (decide_eq_false (by rw [List.length_map]; omega))] (by kernel_rfl) (by kernel_rfl)
theorem e_idxIC {G : FuncId} {c0 c1 c2 : List V} {bad : Int → Bool} (L : List Int) (hc : ∀ a ∈ L, Pure PP G [ni a, .ip c0, .ip c1, .ip c2] (bo (bad a))) : Pure PP 63 [.sl (L.map ci), .cl G [.ip c0, .ip c1, .ip c2]] (bo (L.any bad)) := by
 rw [← fidx_any]
 exact tr [cl (e_idxI L hc)] (by kernel_rfl)
def cvL (L : List CM) (x y : Int) : Int := cmpC (L.getD y.toNat c0) (L.getD x.toNat c0)
theorem e_bel1 (hi : i < L.length) (hj : j < L.length) : Pure PP 62 [ni i, ni j, .ip [.sl (L.map dC)]] (ni (cmpC (L.getD j c0) (L.getD i c0))) :=
 tr [.sel _ _ _ (elC hj), .sel _ _ _ (elC hi), cl (e_compare (L.getD j c0) (L.getD i c0))] (by kernel_rfl)
def In (n : Nat) (xs : List Int) : Prop := ∀ x ∈ xs, 0 ≤ x ∧ x < n
theorem cmp_of {xs : List Int} (h : In L.length xs) : Cmp 62 [.sl (L.map dC)] (cvL L) xs := fun x hx y hy => by
 obtain ⟨x0, x1⟩ := h x hx
 obtain ⟨y0, y1⟩ := h y hy
 obtain ⟨a, rfl⟩ := Int.eq_ofNat_of_zero_le x0
 obtain ⟨b, rfl⟩ := Int.eq_ofNat_of_zero_le y0
 exact e_bel1 (by omega) (by omega)
def bV (bs : List Bool) : List (List V) := bs.map fun b => [bo b]
theorem bV_at {b : Bool} (h : bs[j]? = some b) : (bV bs)[j]? = some [bo b] := by unfold bV; rw [List.getElem?_map, h]; rfl
theorem bV_len : (bV bs).length = bs.length := List.length_map ..
theorem getb (h : j < bs.length) : bs[j]? = some (bs.getD j false) := by rw [List.getD_eq_getElem?_getD, List.getElem?_eq_getElem h]; rfl
/-- Does claim j refute claim i? -/
def bel2 (L : List CM) (bs : List Bool) (i : Nat) (j : Nat) : Bool := bs.getD j false && (L.getD j c0).kind == 3 && befB (L.getD i c0) (L.getD j c0) && ((L.getD j c0).refs.any fun q => decide ((L.getD i c0).nm = q))
theorem e_bel2 (hb : bs.length = L.length) (hi : i < L.length) (hj : j < L.length) : Pure PP 64 [ni j, .ip [.sl (bV bs)], .ip [.sl (L.map dC)], .ip [ni i]] (bo (bel2 L bs i j)) := by
 have e0 := bV_at (getb (bs := bs) (j := j) (by omega))
 have ei := elC hi
 have ej := elC hj
 unfold bel2
 generalize bs.getD j false = b at e0
 generalize L.getD i c0 = c at ei
 generalize L.getD j c0 = d at ej
 cases h1 : (b : Bool) with
 | true =>
   cases h2 : (d.kind == 3 : Bool) with
   | true =>
     cases h3 : (befB c d : Bool) with
     | true =>
       exact tr [.sel _ _ _ e0, ye (t := b) h1, .sel _ _ _ ej, ye (t := d.kind == 3) h2, .sel _ _ _ ei, .sel _ _ _ ej, cl (e_before c d), ye (t := befB c d) h3, .sel _ _ _ ej, .sel _ _ _ ei, cl (e_name c), cl (e_containsN d.refs c.nm)] (by kernel_rfl)
     | false =>
       exact tr [.sel _ _ _ e0, ye (t := b) h1, .sel _ _ _ ej, ye (t := d.kind == 3) h2, .sel _ _ _ ei, .sel _ _ _ ej, cl (e_before c d), na (t := befB c d) h3] (by kernel_rfl)
   | false =>
     exact tr [.sel _ _ _ e0, ye (t := b) h1, .sel _ _ _ ej, na (t := d.kind == 3) h2, nf] (by kernel_rfl)
 | false =>
   exact tr [.sel _ _ _ e0, na (t := b) h1, nf, nf] (by kernel_rfl)
def iota (n : Nat) : List Int := (List.range n).map fun (q : Nat) => (q : Int)
def rowI (i n : Nat) : List Int := (List.range n).map fun q => if q < i then (q : Int) else 0
def ordB (L : List CM) : List Int := isF (cvL L) (iota L.length) L.length
def nxt (L : List CM) (k : Nat) (bs : List Bool) : List Bool := bs.set ((ordB L).getD k 0).toNat (!((ordB L).take k).any fun x => bel2 L bs ((ordB L).getD k 0).toNat x.toNat)
def belF (L : List CM) : Nat → List Bool
 | 0 => List.replicate L.length false
 | k + 1 => nxt L k (belF L k)
def believedL (L : List CM) : List Bool := belF L L.length
theorem iota_len (n : Nat) : (iota n).length = n := by simp [iota]
theorem rowI_len (i n : Nat) : (rowI i n).length = n := by simp [rowI]
theorem rowI_0 (n : Nat) : rowI 0 n = List.replicate n 0 := by
 unfold rowI
 apply List.ext_getElem (by simp)
 intro i h1 h2
 simp
theorem rowI_n (n : Nat) : rowI n n = iota n := by
 unfold rowI iota
 apply List.map_congr_left
 intro q hq
 rw [if_pos (List.mem_range.1 hq)]
theorem rowI_set (h : i < n) : (rowI i n).set i (i : Int) = rowI (i + 1) n := by
 unfold rowI
 apply List.ext_getElem? 
 intro q
 by_cases hq : q < n
 · rw [List.getElem?_set]
   simp only [List.length_map, List.length_range, List.getElem?_map, List.getElem?_range hq, Option.map_some]
   by_cases e : i = q
   · subst e; simp [h]
   · rw [if_neg e]
     by_cases g : q < i
     · rw [if_pos g, if_pos (by omega)]
     · rw [if_neg g, if_neg (by omega)]
 · rw [List.getElem?_eq_none (by simp; omega), List.getElem?_eq_none (by simp; omega)]
theorem iota_in (n : Nat) : In n (iota n) := fun x hx => by
 obtain ⟨q, hq, rfl⟩ := List.mem_map.1 hx
 have := List.mem_range.1 hq
 omega
theorem ordB_len (L : List CM) : (ordB L).length = L.length := by unfold ordB; rw [isF_len, iota_len]
theorem ordB_in (L : List CM) : In L.length (ordB L) := fun x hx => iota_in _ x (mem_isF _ _ _ (by rw [iota_len]; exact Nat.le_refl _) hx)
theorem nxt_len (L : List CM) (k : Nat) (bs : List Bool) : (nxt L k bs).length = bs.length := by unfold nxt; simp
theorem belF_len (L : List CM) : ∀ k, (belF L k).length = L.length
 | 0 => by unfold belF; simp
 | k + 1 => by unfold belF; rw [nxt_len, belF_len L k]
noncomputable abbrev fbl : Func := fnOf PP 38
noncomputable def XB1 (L : List CM) (l : List (List V)) (i : Nat) : St := at_ fbl [(1, .ip [.sl (L.map dC)]), (3, .ow 0), (12, ni ((L.map dC).length : Int)), (13, ni i)] [.rw 3 1 l]
noncomputable def XB2 (L : List CM) (l : List (List V)) (k : Nat) : St := at_ fbl [(1, .ip [.sl (L.map dC)]), (3, .sl (zs (ordB L))), (5, .lp 1 0), (27, .sl (zs (ordB L))), (28, ni ((zs (ordB L)).length : Int)), (29, ni k)] [.rw 4 1 l, .bx 71 [.ow 0]]
theorem bV_set (bs : List Bool) (i : Nat) (b : Bool) : (bV bs).set i [bo b] = bV (bs.set i b) := by unfold bV; rw [List.map_set]
theorem e_believed (hL : L.length ≤ 19) : Pure PP 38 [.sl (L.map dC)] (.o 4 1 (bV (believedL L))) := by
 have hl : (L.map dC).length = L.length := List.length_map ..
 have hol := ordB_len L
 refine pf (by kernel_rfl) (.to mo_ [.fz 1, .mv 0 1] [1, 3, 12, 13] [0] 1 [.mk (L.map dC).length (by omega)] (td' := lp fbl 0) (σ' := XB1 L (List.replicate (L.map dC).length [ni 0]) 0) ?_ (by kernel_rfl))
 rw [hl, zs_rep, ← rowI_0]
 refine Gd.loop (fun i => XB1 L (zs (rowI i L.length)) i) (fun i => i ≤ L.length) (fun i => L.length - i) ?_ 0 (Nat.zero_le _)
 intro i hi ih
 by_cases h : i < L.length
 · have e := zs_el (l := rowI i L.length) (i := i) (by rw [rowI_len]; exact h)
   exact .to mo_ [] [1, 3, 12, 13] [0] 1 [ye (t := decide ((i : Int) < ((L.map dC).length : Int))) (decide_eq_true (by omega)), .sel _ _ _ e, .upd _ _ _ [ni i] (zs (rowI (i + 1) L.length)) e (by rw [zs_set, rowI_set h]), inc 20 i (by omega)] (ih (i + 1) h (by omega)) (by kernel_rfl)
 · have hi2 : i = L.length := by omega
   subst hi2
   rw [rowI_n]
   have hs := e_sortStable (xs := iota L.length) (by rw [iota_len]; exact hL) (cmp_of (L := L) (iota_in _))
   rw [iota_len] at hs
   refine .to mo_ [.fz 3] [1, 3] [] 0 [na (t := decide ((L.length : Int) < ((L.map dC).length : Int))) (decide_eq_false (by omega)), .lend _ _ _ _ [0] hs] (td' := rg fbl 8) (σ' := at_ fbl [(1, .ip [.sl (L.map dC)]), (3, .sl (zs (ordB L)))] []) ?_ (by kernel_rfl)
   refine .to mo_ [] [1, 3, 5, 27, 28, 29] [0, 1] 2 [.mk (L.map dC).length (by omega)] (td' := lp fbl 1) (σ' := XB2 L (List.replicate (L.map dC).length [bo false]) 0) ?_ (by kernel_rfl)
   have h0 : List.replicate (L.map dC).length [bo false] = bV (belF L 0) := by unfold bV belF; rw [List.map_replicate, hl]
   rw [h0]
   refine Gd.loop (fun k => XB2 L (bV (belF L k)) k) (fun k => k ≤ L.length) (fun k => L.length - k) ?_ 0 (Nat.zero_le _)
   intro k hk kh
   have hbl := belF_len L k
   by_cases g : k < L.length
   · have e := zs_el (l := ordB L) (i := k) (by omega)
     have hin := ordB_in L _ (dmem (xs := ordB L) (i := k) (by omega))
     have hlt : decide ((k : Int) < ((zs (ordB L)).length : Int)) = true := decide_eq_true (by rw [zs_len]; omega)
     have hc := e_idxIC (G := 64) (c0 := [.sl (bV (belF L k))]) (c1 := [.sl (L.map dC)]) (c2 := [ni (((ordB L).getD k 0).toNat : Int)]) (bad := fun x => bel2 L (belF L k) ((ordB L).getD k 0).toNat x.toNat) ((ordB L).take k) (fun x hx => by
       obtain ⟨x0, x1⟩ := ordB_in L x (List.mem_of_mem_take hx)
       obtain ⟨a, rfl⟩ := Int.eq_ofNat_of_zero_le x0
       exact e_bel2 hbl (by omega) (by omega))
     have hbi : ((ordB L).getD k 0).toNat < (belF L k).length := by omega
     have eb := bV_at (getb hbi)
     have nx := kh (k + 1) g (by omega)
     have hnx : belF L (k + 1) = nxt L k (belF L k) := rfl
     rw [hnx] at nx
     have hst : (bV (belF L k)).set ((ordB L).getD k 0).toNat [bo (!((ordB L).take k).any fun x => bel2 L (belF L k) ((ordB L).getD k 0).toNat x.toNat)] = bV (nxt L k (belF L k)) := by rw [bV_set]; rfl
     have htk : (zs (ordB L)).take k = ((ordB L).take k).map ci := by rw [zs_take]; rfl
     exact .to mo_ [] [1, 3, 5, 27, 28, 29] [0, 1] 2 [ye hlt, .sel _ _ _ e, .eqv 33 (ni ((ordB L).getD k 0)) (ni (((ordB L).getD k 0).toNat : Int)) (by congr 2; omega), .slc (zs (ordB L)) 0 k 1 (((ordB L).take k).map ci) (by rw [← htk]; rfl) ⟨Nat.zero_le _, by rw [zs_len]; omega⟩ (zs_z _), cl hc, .sel _ _ _ eb, .upd _ _ _ _ (bV (nxt L k (belF L k))) eb hst, inc 43 k (by omega)] nx (by kernel_rfl)
   · have hk2 : k = L.length := by omega
     subst hk2
     exact fi [na (t := decide ((L.length : Int) < ((zs (ordB L)).length : Int))) (decide_eq_false (by rw [zs_len]; omega))] (by kernel_rfl) (by kernel_rfl)
theorem e_find1 (c : CM) (p : Int × Int) : Pure PP 33 [.ag (dC c), .ip (nm p)] (bo (decide (c.nm = p))) := tr [cl (e_name c), fEq c.nm p] (by kernel_rfl)
theorem e_find (L : List CM) (p : Int × Int) : Pure PP 10 [.sl (L.map dC), .ag (nm p)] (ni (fidx (fun c => decide (c.nm = p)) L)) := tr [cl (e_idxC (G := 33) (c0 := nm p) (bad := fun c => decide (c.nm = p)) L fun a _ => e_find1 a p)] (by kernel_rfl)
end
end Go.Proofs.YthliihpeodohpaaGreatDoor.E.Ca
