/-
 CLAIMS: the encoding of a claim of few small numbers, by the engine (printed by gen/cao.py).
-/
import Derived.Test.YtmhliomemdhmiaaGreatDoorCaL
namespace Go.Proofs.YtmhliomemdhmiaaGreatDoor.E.Ca
open Go.RowKit
set_option linter.unusedVariables false
set_option linter.unusedSimpArgs false
section
variable {G : FuncId} {c1 : List V} {cv : Int → Int → Int} {xs ys : List Int} {i j n : Nat}
theorem e_isort0 : PureT PP 170 [.rw 3 1 []] [.ow 0, ni 0, ni 0, .cl G [.ip c1]] (DI []) := by
 refine pfT (by kernel_rfl) (.to mo_ [] [0, 1, 2, 3, 8] [0] 1 [.eqv 11 (ni (IntKind.i64.wrap (0 + 1))) (ni (1 : Nat)) rfl] (td' := lp fis 0) (σ' := XI G c1 0 [] 1) ?_ (by kernel_rfl))
 exact fi [nf] (by kernel_rfl) (by kernel_rfl)
theorem e_isortN (hn : xs.length = n) (h1 : n ≤ 1000) (hc : Cmp G c1 cv xs) : PureT PP 170 [.rw 3 1 (zs xs)] [.ow 0, ni 0, ni n, .cl G [.ip c1]] (DI (isF cv xs n)) := by
 by_cases h : n = 0
 · subst h
   have h0 := List.length_eq_zero_iff.1 hn
   subst h0
   exact e_isort0
 · exact e_isort hn (by omega) hc
noncomputable abbrev fst_ : Func := fnOf PP 125
theorem e_stable (hn : xs.length = n) (h1 : n ≤ 19) (hc : Cmp G c1 cv xs) : PureT PP 125 [.rw 3 1 (zs xs)] [.ow 0, ni n, .cl G [.ip c1]] (DI (isF cv xs n)) := by
 let X : List Int → St := fun ys => at_ fst_ [(0, .ow 0), (1, ni n), (2, .cl G [.ip c1]), (6, ni 20), (7, ni 0), (8, ni 20)] [.rw 3 1 (zs ys)]
 refine pfT (by kernel_rfl) (.to mo_ [] [0, 1, 2, 6, 7, 8] [0] 1 [] (td' := lp fst_ 0) (σ' := X xs) ?_ (by kernel_rfl))
 refine .to mo_ [] [0, 1, 2, 6, 7, 8] [0] 1 [na (t := decide ((20 : Int) ≤ (n : Int))) (decide_eq_false (by omega)), .lend _ _ _ _ [0] (e_isortN hn (by omega) hc)] (td' := lp fst_ 1) (σ' := X (isF cv xs n)) ?_ (by kernel_rfl)
 exact fi [na (t := decide ((20 : Int) < (n : Int))) (decide_eq_false (by omega))] (by kernel_rfl) (by kernel_rfl)
theorem e_sortStable (h1 : xs.length ≤ 19) (hc : Cmp G c1 cv xs) : PureT PP 57 [.rw 3 1 (zs xs)] [.ow 0, .cl G [.ip c1]] (DI (isF cv xs xs.length)) :=
 trT [.eqv 6 (ni ((zs xs).length : Int)) (ni (xs.length : Int)) (by rw [zs_len]), .lend _ _ _ _ [0] (e_stable rfl h1 hc)] (by kernel_rfl)
end
end Go.Proofs.YtmhliomemdhmiaaGreatDoor.E.Ca
namespace Go.Proofs.YtmhliomemdhmiaaGreatDoor.E.Ca
open Go.RowKit
set_option linter.unusedVariables false
set_option linter.unusedSimpArgs false
section
variable {L : List CM} {i j k n : Nat} {bs : List Bool}
noncomputable abbrev fe_idxI : Func := fnOf PP 127
theorem e_idxI {G : FuncId} {c0 c1 c2 : List V} {bad : Int → Bool} (L : List Int) (hc : ∀ a ∈ L, Pure PP G [ni a, .ip c0, .ip c1, .ip c2] (bo (bad a))) : Pure PP 127 [.sl (L.map ci), .cl G [.ip c0, .ip c1, .ip c2]] (ni (fidx bad L)) := by
 refine .len 0 (l := L.map ci) (by kernel_rfl) rfl fun hm => ?_
 rw [List.length_map] at hm
 unfold maxLen at hm
 let X : Nat → St := fun i => at_ fe_idxI [(0, .sl (L.map ci)), (1, .cl G [.ip c0, .ip c1, .ip c2]), (7, ni ((L.map ci).length : Int)), (8, ni i)] []
 refine pf (by kernel_rfl) (.to mo_ [] [0, 1, 7, 8] [] 0 [] (td' := lp fe_idxI 0) (σ' := X 0) ?_ (by kernel_rfl))
 refine Gd.loop X (fun i => i ≤ L.length ∧ ∀ t b, t < i → L[t]? = some b → bad b = false) (fun i => L.length - i) ?_ 0 ⟨Nat.zero_le _, no_zero⟩
 intro i ⟨hi, hI⟩ ih
 by_cases h : i < L.length
 · obtain ⟨a, ha, hma⟩ := get_of h
   have hlt : decide ((i : Int) < ((L.map ci).length : Int)) = true := decide_eq_true (by rw [List.length_map]; omega)
   have hcc := hc a hma
   cases hb : bad a with
   | true =>
     rw [hb] at hcc
     rw [fidx_at hI ha hb]
     exact fi [ye hlt, .sel _ _ _ (sel_map (f := ci) ha), cl hcc, yt] (by kernel_rfl) (by kernel_rfl)
   | false =>
     rw [hb] at hcc
     exact .to mo_ [] [0, 1, 7, 8] [] 0 [ye hlt, .sel _ _ _ (sel_map (f := ci) ha), cl hcc, nf, inc 18 i (by omega)] (ih (i + 1) ⟨h, no_step hI ha hb⟩ (by omega)) (by kernel_rfl)
 · rw [fidx_no hI h]
   exact fi [na (t := decide ((i : Int) < ((L.map ci).length : Int))) (decide_eq_false (by rw [List.length_map]; omega))] (by kernel_rfl) (by kernel_rfl)
theorem e_idxIC {G : FuncId} {c0 c1 c2 : List V} {bad : Int → Bool} (L : List Int) (hc : ∀ a ∈ L, Pure PP G [ni a, .ip c0, .ip c1, .ip c2] (bo (bad a))) : Pure PP 60 [.sl (L.map ci), .cl G [.ip c0, .ip c1, .ip c2]] (bo (L.any bad)) := by
 rw [← fidx_any]
 exact tr [cl (e_idxI L hc)] (by kernel_rfl)
def cvL (L : List CM) (x y : Int) : Int := cmpC (L.getD y.toNat c0) (L.getD x.toNat c0)
theorem e_bel1 (hi : i < L.length) (hj : j < L.length) : Pure PP 58 [ni i, ni j, .ip [.sl (L.map dC)]] (ni (cmpC (L.getD j c0) (L.getD i c0))) :=
 tr [.sel _ _ _ (elC hj), .sel _ _ _ (elC hi), cl (e_compare (L.getD j c0) (L.getD i c0))] (by kernel_rfl)
def In (n : Nat) (xs : List Int) : Prop := ∀ x ∈ xs, 0 ≤ x ∧ x < n
theorem cmp_of {xs : List Int} (h : In L.length xs) : Cmp 58 [.sl (L.map dC)] (cvL L) xs := fun x hx y hy => by
 obtain ⟨x0, x1⟩ := h x hx
 obtain ⟨y0, y1⟩ := h y hy
 obtain ⟨a, rfl⟩ := Int.eq_ofNat_of_zero_le x0
 obtain ⟨b, rfl⟩ := Int.eq_ofNat_of_zero_le y0
 exact e_bel1 (by omega) (by omega)
def bV (bs : List Bool) : List (List V) := bs.map fun b => [bo b]
theorem bV_at {b : Bool} (h : bs[j]? = some b) : (bV bs)[j]? = some [bo b] := by unfold bV; rw [List.getElem?_map, h]; rfl
theorem bV_len : (bV bs).length = bs.length := List.length_map ..
theorem getb (h : j < bs.length) : bs[j]? = some (bs.getD j false) := by rw [List.getD_eq_getElem?_getD, List.getElem?_eq_getElem h]; rfl
/-- Does claim j refute claim i? -/
def bel2 (L : List CM) (bs : List Bool) (i : Nat) (j : Nat) : Bool := bs.getD j false && (L.getD j c0).kind == 3 && befB (L.getD i c0) (L.getD j c0) && ((L.getD j c0).refs.any fun q => decide ((L.getD i c0).nm = q))
theorem e_bel2 (hb : bs.length = L.length) (hi : i < L.length) (hj : j < L.length) : Pure PP 61 [ni j, .ip [.sl (bV bs)], .ip [.sl (L.map dC)], .ip [ni i]] (bo (bel2 L bs i j)) := by
 have e0 := bV_at (getb (bs := bs) (j := j) (by omega))
 have ei := elC hi
 have ej := elC hj
 unfold bel2
 generalize bs.getD j false = b at e0
 generalize L.getD i c0 = c at ei
 generalize L.getD j c0 = d at ej
 cases h1 : (b : Bool) with
 | true =>
   cases h2 : (d.kind == 3 : Bool) with
   | true =>
     cases h3 : (befB c d : Bool) with
     | true =>
       exact tr [.sel _ _ _ e0, ye (t := b) h1, .sel _ _ _ ej, ye (t := d.kind == 3) h2, .sel _ _ _ ei, .sel _ _ _ ej, cl (e_before c d), ye (t := befB c d) h3, .sel _ _ _ ej, .sel _ _ _ ei, cl (e_name c), cl (e_containsN d.refs c.nm)] (by kernel_rfl)
     | false =>
       exact tr [.sel _ _ _ e0, ye (t := b) h1, .sel _ _ _ ej, ye (t := d.kind == 3) h2, .sel _ _ _ ei, .sel _ _ _ ej, cl (e_before c d), na (t := befB c d) h3] (by kernel_rfl)
   | false =>
     exact tr [.sel _ _ _ e0, ye (t := b) h1, .sel _ _ _ ej, na (t := d.kind == 3) h2, nf] (by kernel_rfl)
 | false =>
   exact tr [.sel _ _ _ e0, na (t := b) h1, nf, nf] (by kernel_rfl)
def iota (n : Nat) : List Int := (List.range n).map fun (q : Nat) => (q : Int)
def rowI (i n : Nat) : List Int := (List.range n).map fun q => if q < i then (q : Int) else 0
def ordB (L : List CM) : List Int := isF (cvL L) (iota L.length) L.length
def nxt (L : List CM) (k : Nat) (bs : List Bool) : List Bool := bs.set ((ordB L).getD k 0).toNat (!((ordB L).take k).any fun x => bel2 L bs ((ordB L).getD k 0).toNat x.toNat)
def belF (L : List CM) : Nat → List Bool
 | 0 => List.replicate L.length false
 | k + 1 => nxt L k (belF L k)
def believedL (L : List CM) : List Bool := belF L L.length
theorem iota_len (n : Nat) : (iota n).length = n := by simp [iota]
theorem rowI_len (i n : Nat) : (rowI i n).length = n := by simp [rowI]
theorem rowI_0 (n : Nat) : rowI 0 n = List.replicate n 0 := by
 unfold rowI
 apply List.ext_getElem (by simp)
 intro i h1 h2
 simp
theorem rowI_n (n : Nat) : rowI n n = iota n := by
 unfold rowI iota
 apply List.map_congr_left
 intro q hq
 rw [if_pos (List.mem_range.1 hq)]
theorem rowI_set (h : i < n) : (rowI i n).set i (i : Int) = rowI (i + 1) n := by
 unfold rowI
 apply List.ext_getElem? 
 intro q
 by_cases hq : q < n
 · rw [List.getElem?_set]
   simp only [List.length_map, List.length_range, List.getElem?_map, List.getElem?_range hq, Option.map_some]
   by_cases e : i = q
   · subst e; simp [h]
   · rw [if_neg e]
     by_cases g : q < i
     · rw [if_pos g, if_pos (by omega)]
     · rw [if_neg g, if_neg (by omega)]
 · rw [List.getElem?_eq_none (by simp; omega), List.getElem?_eq_none (by simp; omega)]
theorem iota_in (n : Nat) : In n (iota n) := fun x hx => by
 obtain ⟨q, hq, rfl⟩ := List.mem_map.1 hx
 have := List.mem_range.1 hq
 omega
theorem ordB_len (L : List CM) : (ordB L).length = L.length := by unfold ordB; rw [isF_len, iota_len]
theorem ordB_in (L : List CM) : In L.length (ordB L) := fun x hx => iota_in _ x (mem_isF _ _ _ (by rw [iota_len]; exact Nat.le_refl _) hx)
theorem nxt_len (L : List CM) (k : Nat) (bs : List Bool) : (nxt L k bs).length = bs.length := by unfold nxt; simp
theorem belF_len (L : List CM) : ∀ k, (belF L k).length = L.length
 | 0 => by unfold belF; simp
 | k + 1 => by unfold belF; rw [nxt_len, belF_len L k]
noncomputable abbrev fbl : Func := fnOf PP 20
noncomputable def XB1 (L : List CM) (l : List (List V)) (i : Nat) : St := at_ fbl [(1, .ip [.sl (L.map dC)]), (3, .ow 0), (12, ni ((L.map dC).length : Int)), (13, ni i)] [.rw 3 1 l]
noncomputable def XB2 (L : List CM) (l : List (List V)) (k : Nat) : St := at_ fbl [(1, .ip [.sl (L.map dC)]), (3, .sl (zs (ordB L))), (5, .lp 1 0), (27, .sl (zs (ordB L))), (28, ni ((zs (ordB L)).length : Int)), (29, ni k)] [.rw 4 1 l, .bx 48 [.ow 0]]
theorem bV_set (bs : List Bool) (i : Nat) (b : Bool) : (bV bs).set i [bo b] = bV (bs.set i b) := by unfold bV; rw [List.map_set]
theorem e_believed (hL : L.length ≤ 19) : Pure PP 20 [.sl (L.map dC)] (.o 4 1 (bV (believedL L))) := by
 have hl : (L.map dC).length = L.length := List.length_map ..
 have hol := ordB_len L
 refine pf (by kernel_rfl) (.to mo_ [.fz 1, .mv 0 1] [1, 3, 12, 13] [0] 1 [.mk (L.map dC).length (by omega)] (td' := lp fbl 0) (σ' := XB1 L (List.replicate (L.map dC).length [ni 0]) 0) ?_ (by kernel_rfl))
 rw [hl, zs_rep, ← rowI_0]
 refine Gd.loop (fun i => XB1 L (zs (rowI i L.length)) i) (fun i => i ≤ L.length) (fun i => L.length - i) ?_ 0 (Nat.zero_le _)
 intro i hi ih
 by_cases h : i < L.length
 · have e := zs_el (l := rowI i L.length) (i := i) (by rw [rowI_len]; exact h)
   exact .to mo_ [] [1, 3, 12, 13] [0] 1 [ye (t := decide ((i : Int) < ((L.map dC).length : Int))) (decide_eq_true (by omega)), .sel _ _ _ e, .upd _ _ _ [ni i] (zs (rowI (i + 1) L.length)) e (by rw [zs_set, rowI_set h]), inc 20 i (by omega)] (ih (i + 1) h (by omega)) (by kernel_rfl)
 · have hi2 : i = L.length := by omega
   subst hi2
   rw [rowI_n]
   have hs := e_sortStable (xs := iota L.length) (by rw [iota_len]; exact hL) (cmp_of (L := L) (iota_in _))
   rw [iota_len] at hs
   refine .to mo_ [.fz 3] [1, 3] [] 0 [na (t := decide ((L.length : Int) < ((L.map dC).length : Int))) (decide_eq_false (by omega)), .lend _ _ _ _ [0] hs] (td' := rg fbl 8) (σ' := at_ fbl [(1, .ip [.sl (L.map dC)]), (3, .sl (zs (ordB L)))] []) ?_ (by kernel_rfl)
   refine .to mo_ [] [1, 3, 5, 27, 28, 29] [0, 1] 2 [.mk (L.map dC).length (by omega)] (td' := lp fbl 1) (σ' := XB2 L (List.replicate (L.map dC).length [bo false]) 0) ?_ (by kernel_rfl)
   have h0 : List.replicate (L.map dC).length [bo false] = bV (belF L 0) := by unfold bV belF; rw [List.map_replicate, hl]
   rw [h0]
   refine Gd.loop (fun k => XB2 L (bV (belF L k)) k) (fun k => k ≤ L.length) (fun k => L.length - k) ?_ 0 (Nat.zero_le _)
   intro k hk kh
   have hbl := belF_len L k
   by_cases g : k < L.length
   · have e := zs_el (l := ordB L) (i := k) (by omega)
     have hin := ordB_in L _ (dmem (xs := ordB L) (i := k) (by omega))
     have hlt : decide ((k : Int) < ((zs (ordB L)).length : Int)) = true := decide_eq_true (by rw [zs_len]; omega)
     have hc := e_idxIC (G := 61) (c0 := [.sl (bV (belF L k))]) (c1 := [.sl (L.map dC)]) (c2 := [ni (((ordB L).getD k 0).toNat : Int)]) (bad := fun x => bel2 L (belF L k) ((ordB L).getD k 0).toNat x.toNat) ((ordB L).take k) (fun x hx => by
       obtain ⟨x0, x1⟩ := ordB_in L x (List.mem_of_mem_take hx)
       obtain ⟨a, rfl⟩ := Int.eq_ofNat_of_zero_le x0
       exact e_bel2 hbl (by omega) (by omega))
     have hbi : ((ordB L).getD k 0).toNat < (belF L k).length := by omega
     have eb := bV_at (getb hbi)
     have nx := kh (k + 1) g (by omega)
     have hnx : belF L (k + 1) = nxt L k (belF L k) := rfl
     rw [hnx] at nx
     have hst : (bV (belF L k)).set ((ordB L).getD k 0).toNat [bo (!((ordB L).take k).any fun x => bel2 L (belF L k) ((ordB L).getD k 0).toNat x.toNat)] = bV (nxt L k (belF L k)) := by rw [bV_set]; rfl
     have htk : (zs (ordB L)).take k = ((ordB L).take k).map ci := by rw [zs_take]; rfl
     exact .to mo_ [] [1, 3, 5, 27, 28, 29] [0, 1] 2 [ye hlt, .sel _ _ _ e, .eqv 33 (ni ((ordB L).getD k 0)) (ni (((ordB L).getD k 0).toNat : Int)) (by congr 2; omega), .slc (zs (ordB L)) 0 k 1 (((ordB L).take k).map ci) (by rw [← htk]; rfl) ⟨Nat.zero_le _, by rw [zs_len]; omega⟩ (zs_z _), cl hc, .sel _ _ _ eb, .upd _ _ _ _ (bV (nxt L k (belF L k))) eb hst, inc 43 k (by omega)] nx (by kernel_rfl)
   · have hk2 : k = L.length := by omega
     subst hk2
     exact fi [na (t := decide ((L.length : Int) < ((zs (ordB L)).length : Int))) (decide_eq_false (by rw [zs_len]; omega))] (by kernel_rfl) (by kernel_rfl)
theorem e_find1 (c : CM) (p : Int × Int) : Pure PP 98 [.ag (dC c), .ip (nm p)] (bo (decide (c.nm = p))) := tr [cl (e_name c), fEq c.nm p] (by kernel_rfl)
theorem e_find (L : List CM) (p : Int × Int) : Pure PP 37 [.sl (L.map dC), .ag (nm p)] (ni (fidx (fun c => decide (c.nm = p)) L)) := tr [cl (e_idxC (G := 98) (c0 := nm p) (bad := fun c => decide (c.nm = p)) L fun a _ => e_find1 a p)] (by kernel_rfl)
end
end Go.Proofs.YtmhliomemdhmiaaGreatDoor.E.Ca
namespace Go.Proofs.YtmhliomemdhmiaaGreatDoor.E.Ca
open Go.RowKit
set_option linter.unusedVariables false
set_option linter.unusedSimpArgs false
def ub (l : List Int) : List (List V) := l.map fun x => [.k (.int .u8 x)]
theorem ub_app (a b : List Int) : ub a ++ ub b = ub (a ++ b) := List.map_append.symm
theorem ub_len (a : List Int) : (ub a).length = a.length := List.length_map ..
theorem ub_ok (a : List Int) : ∀ cs ∈ ub a, cs.length = 1 ∧ cs.all one = true := fun cs h => by
 obtain ⟨x, _, rfl⟩ := List.mem_map.1 h
 exact ⟨rfl, rfl⟩
theorem ub_k (a : List Int) : ∀ cs ∈ ub a, cs.all isK = true := fun cs h => by
 obtain ⟨x, _, rfl⟩ := List.mem_map.1 h
 rfl
noncomputable abbrev fwi : Func := fnOf PP 78
theorem e_wi0 : Pure PP 78 [ni 0] (.o 5 1 (ub [128])) := by
  refine pf (by kernel_rfl) (.to mo_ [] [3, 4, 5] [] 0 [nf] (td' := lp fwi 0) (σ' := at_ fwi [(3, .k (.int .u64 0)), (4, .k (.int .u8 0)), (5, ni 8)] []) ?_ (by kernel_rfl))
  refine .to mo_ [] [3, 4, 5] [] 0 [yt, nf] (td' := lp fwi 0) (σ' := at_ fwi [(3, .k (.int .u64 0)), (4, .k (.int .u8 0)), (5, ni 7)] []) ?_ (by kernel_rfl)
  refine .to mo_ [] [3, 4, 5] [] 0 [yt, nf] (td' := lp fwi 0) (σ' := at_ fwi [(3, .k (.int .u64 0)), (4, .k (.int .u8 0)), (5, ni 6)] []) ?_ (by kernel_rfl)
  refine .to mo_ [] [3, 4, 5] [] 0 [yt, nf] (td' := lp fwi 0) (σ' := at_ fwi [(3, .k (.int .u64 0)), (4, .k (.int .u8 0)), (5, ni 5)] []) ?_ (by kernel_rfl)
  refine .to mo_ [] [3, 4, 5] [] 0 [yt, nf] (td' := lp fwi 0) (σ' := at_ fwi [(3, .k (.int .u64 0)), (4, .k (.int .u8 0)), (5, ni 4)] []) ?_ (by kernel_rfl)
  refine .to mo_ [] [3, 4, 5] [] 0 [yt, nf] (td' := lp fwi 0) (σ' := at_ fwi [(3, .k (.int .u64 0)), (4, .k (.int .u8 0)), (5, ni 3)] []) ?_ (by kernel_rfl)
  refine .to mo_ [] [3, 4, 5] [] 0 [yt, nf] (td' := lp fwi 0) (σ' := at_ fwi [(3, .k (.int .u64 0)), (4, .k (.int .u8 0)), (5, ni 2)] []) ?_ (by kernel_rfl)
  refine .to mo_ [] [3, 4, 5] [] 0 [yt, nf] (td' := lp fwi 0) (σ' := at_ fwi [(3, .k (.int .u64 0)), (4, .k (.int .u8 0)), (5, ni 1)] []) ?_ (by kernel_rfl)
  refine .to mo_ [] [3, 4, 5] [] 0 [yt, nf] (td' := lp fwi 0) (σ' := at_ fwi [(3, .k (.int .u64 0)), (4, .k (.int .u8 0)), (5, ni 0)] []) ?_ (by kernel_rfl)
  refine .to mo_ [] [3, 4, 6, 7] [0] 1 [nf] (td' := lp fwi 1) (σ' := at_ fwi [(3, .k (.int .u64 0)), (4, .k (.int .u8 0)), (6, .ow 0), (7, ni (-1))] [.rw 5 1 (ub [128])]) ?_ (by kernel_rfl)
  exact fi [nf] (by kernel_rfl) (by kernel_rfl)
theorem e_wi1 : Pure PP 78 [ni 1] (.o 5 1 (ub [129, 1])) := by
  refine pf (by kernel_rfl) (.to mo_ [] [3, 4, 5] [] 0 [nf] (td' := lp fwi 0) (σ' := at_ fwi [(3, .k (.int .u64 1)), (4, .k (.int .u8 0)), (5, ni 8)] []) ?_ (by kernel_rfl))
  refine .to mo_ [] [3, 4, 5] [] 0 [yt, nf] (td' := lp fwi 0) (σ' := at_ fwi [(3, .k (.int .u64 1)), (4, .k (.int .u8 0)), (5, ni 7)] []) ?_ (by kernel_rfl)
  refine .to mo_ [] [3, 4, 5] [] 0 [yt, nf] (td' := lp fwi 0) (σ' := at_ fwi [(3, .k (.int .u64 1)), (4, .k (.int .u8 0)), (5, ni 6)] []) ?_ (by kernel_rfl)
  refine .to mo_ [] [3, 4, 5] [] 0 [yt, nf] (td' := lp fwi 0) (σ' := at_ fwi [(3, .k (.int .u64 1)), (4, .k (.int .u8 0)), (5, ni 5)] []) ?_ (by kernel_rfl)
  refine .to mo_ [] [3, 4, 5] [] 0 [yt, nf] (td' := lp fwi 0) (σ' := at_ fwi [(3, .k (.int .u64 1)), (4, .k (.int .u8 0)), (5, ni 4)] []) ?_ (by kernel_rfl)
  refine .to mo_ [] [3, 4, 5] [] 0 [yt, nf] (td' := lp fwi 0) (σ' := at_ fwi [(3, .k (.int .u64 1)), (4, .k (.int .u8 0)), (5, ni 3)] []) ?_ (by kernel_rfl)
  refine .to mo_ [] [3, 4, 5] [] 0 [yt, nf] (td' := lp fwi 0) (σ' := at_ fwi [(3, .k (.int .u64 1)), (4, .k (.int .u8 0)), (5, ni 2)] []) ?_ (by kernel_rfl)
  refine .to mo_ [] [3, 4, 5] [] 0 [yt, nf] (td' := lp fwi 0) (σ' := at_ fwi [(3, .k (.int .u64 1)), (4, .k (.int .u8 0)), (5, ni 1)] []) ?_ (by kernel_rfl)
  refine .to mo_ [] [3, 4, 6, 7] [0] 1 [yt, yt] (td' := lp fwi 1) (σ' := at_ fwi [(3, .k (.int .u64 1)), (4, .k (.int .u8 0)), (6, .ow 0), (7, ni (0))] [.rw 5 1 (ub [129])]) ?_ (by kernel_rfl)
  refine .to mo_ [.mv 0 2] [3, 4, 6, 7] [0] 1 [yt, .app (ub [129]) (ub [1]) (ub [129, 1]) 100 rfl (by decide) (by decide)] (td' := lp fwi 1) (σ' := at_ fwi [(3, .k (.int .u64 1)), (4, .k (.int .u8 0)), (6, .ow 0), (7, ni (-1))] [.rw 5 1 (ub [129, 1])]) ?_ (by kernel_rfl)
  exact fi [nf] (by kernel_rfl) (by kernel_rfl)
theorem e_wi5 : Pure PP 78 [ni 5] (.o 5 1 (ub [129, 5])) := by
  refine pf (by kernel_rfl) (.to mo_ [] [3, 4, 5] [] 0 [nf] (td' := lp fwi 0) (σ' := at_ fwi [(3, .k (.int .u64 5)), (4, .k (.int .u8 0)), (5, ni 8)] []) ?_ (by kernel_rfl))
  refine .to mo_ [] [3, 4, 5] [] 0 [yt, nf] (td' := lp fwi 0) (σ' := at_ fwi [(3, .k (.int .u64 5)), (4, .k (.int .u8 0)), (5, ni 7)] []) ?_ (by kernel_rfl)
  refine .to mo_ [] [3, 4, 5] [] 0 [yt, nf] (td' := lp fwi 0) (σ' := at_ fwi [(3, .k (.int .u64 5)), (4, .k (.int .u8 0)), (5, ni 6)] []) ?_ (by kernel_rfl)
  refine .to mo_ [] [3, 4, 5] [] 0 [yt, nf] (td' := lp fwi 0) (σ' := at_ fwi [(3, .k (.int .u64 5)), (4, .k (.int .u8 0)), (5, ni 5)] []) ?_ (by kernel_rfl)
  refine .to mo_ [] [3, 4, 5] [] 0 [yt, nf] (td' := lp fwi 0) (σ' := at_ fwi [(3, .k (.int .u64 5)), (4, .k (.int .u8 0)), (5, ni 4)] []) ?_ (by kernel_rfl)
  refine .to mo_ [] [3, 4, 5] [] 0 [yt, nf] (td' := lp fwi 0) (σ' := at_ fwi [(3, .k (.int .u64 5)), (4, .k (.int .u8 0)), (5, ni 3)] []) ?_ (by kernel_rfl)
  refine .to mo_ [] [3, 4, 5] [] 0 [yt, nf] (td' := lp fwi 0) (σ' := at_ fwi [(3, .k (.int .u64 5)), (4, .k (.int .u8 0)), (5, ni 2)] []) ?_ (by kernel_rfl)
  refine .to mo_ [] [3, 4, 5] [] 0 [yt, nf] (td' := lp fwi 0) (σ' := at_ fwi [(3, .k (.int .u64 5)), (4, .k (.int .u8 0)), (5, ni 1)] []) ?_ (by kernel_rfl)
  refine .to mo_ [] [3, 4, 6, 7] [0] 1 [yt, yt] (td' := lp fwi 1) (σ' := at_ fwi [(3, .k (.int .u64 5)), (4, .k (.int .u8 0)), (6, .ow 0), (7, ni (0))] [.rw 5 1 (ub [129])]) ?_ (by kernel_rfl)
  refine .to mo_ [.mv 0 2] [3, 4, 6, 7] [0] 1 [yt, .app (ub [129]) (ub [5]) (ub [129, 5]) 100 rfl (by decide) (by decide)] (td' := lp fwi 1) (σ' := at_ fwi [(3, .k (.int .u64 5)), (4, .k (.int .u8 0)), (6, .ow 0), (7, ni (-1))] [.rw 5 1 (ub [129, 5])]) ?_ (by kernel_rfl)
  exact fi [nf] (by kernel_rfl) (by kernel_rfl)
def wi (x : Int) : List Int := if x = 0 then [128] else [129, x]
def Sm (x : Int) : Prop := x = 0 ∨ x = 1 ∨ x = 5
theorem e_wi {x : Int} (h : Sm x) : Pure PP 78 [ni x] (.o 5 1 (ub (wi x))) := by
 rcases h with rfl | rfl | rfl
 · exact e_wi0
 · exact e_wi1
 · exact e_wi5
def wis (l : List Int) : List Int := wi l.length ++ (l.map wi).flatten
theorem wi_len (x : Int) : 1 ≤ (wi x).length ∧ (wi x).length ≤ 2 := by unfold wi; split <;> simp
noncomputable abbrev fws : Func := fnOf PP 29
theorem e_wis {l : List Int} (hl : Sm (l.length : Int)) (hs : ∀ x ∈ l, Sm x) : Pure PP 29 [zl l] (.o 5 1 (ub (wis l))) := by
 have hz := zs_len l
 have hle : l.length ≤ 5 := by rcases hl with h | h | h <;> omega
 let P : Nat → List Int := fun i => wi l.length ++ ((l.take i).map wi).flatten
 let X : Nat → St := fun i => at_ fws [(3, .ow 0), (9, zl l), (10, ni ((zs l).length : Int)), (11, ni i)] [.rw 5 1 (ub (P i))]
 have h0 : P 0 = wi l.length := by simp [P]
 have hn : P l.length = wis l := by simp only [P, wis]; rw [List.take_length]
 have hPl : ∀ i, i ≤ l.length → (P i).length ≤ 2 + 2 * i := fun i => by
  induction i with
  | zero => intro _; rw [h0]; exact (wi_len _).2
  | succ i ih =>
   intro hi
   have hx := num_el (l := l) (i := i) (by omega)
   have e : P (i + 1) = P i ++ wi (l.getD i 0) := by simp only [P]; rw [List.take_add_one, hx]; simp
   have := wi_len (l.getD i 0)
   rw [e, List.length_append]
   have := ih (by omega)
   omega
 refine pf (by kernel_rfl) (.to mo_ [] [3, 9, 10, 11] [0] 1 [.eqv 7 (ni ((zs l).length : Int)) (ni (l.length : Int)) (by rw [hz]), cl (e_wi hl)] (td' := lp fws 0) (σ' := at_ fws [(3, .ow 0), (9, zl l), (10, ni ((zs l).length : Int)), (11, ni 0)] [.rw 5 1 (ub (wi l.length))]) ?_ (by kernel_rfl))
 rw [← h0]
 refine Gd.loop X (fun i => i ≤ l.length) (fun i => l.length - i) ?_ 0 (Nat.zero_le _)
 intro i hi ih
 by_cases h : i < l.length
 · have e := zs_el h
   have hx := num_el h
   have hm : l.getD i 0 ∈ l := dmem h
   have eP : P (i + 1) = P i ++ wi (l.getD i 0) := by simp only [P]; rw [List.take_add_one, hx]; simp
   have h1 := hPl (i + 1) h
   have h2 := wi_len (l.getD i 0)
   exact .to mo_ [.mv 0 2] [3, 9, 10, 11] [0] 1 [ye (t := decide ((i : Int) < ((zs l).length : Int))) (decide_eq_true (by omega)), .sel _ _ _ e, cl (e_wi (hs _ hm)), .app (ub (P i)) (ub (wi (l.getD i 0))) (ub (P (i + 1))) 100 (by rw [ub_app, eP]) (by rw [ub_len]; omega) (by rw [ub_len]; omega), inc 19 i (by omega)] (ih (i + 1) h (by omega)) (by kernel_rfl)
 · have hi2 : i = l.length := by omega
   subst hi2
   rw [← hn]
   exact fi [na (t := decide ((l.length : Int) < ((zs l).length : Int))) (decide_eq_false (by omega))] (by kernel_rfl) (by kernel_rfl)
theorem e_grow {n : Nat} (h : 0 < n ∧ n ≤ 1000) : Pure PP 130 [.nl, ni n] (.o 5 1 []) :=
 tr [na (t := decide ((n : Int) < 0)) (decide_eq_false (by omega)), .nil, .eqv 13 (ni (IntKind.i64.wrap (0 - 0))) (ni 0) rfl, wq 14 ((n : Int) - 0) (n : Int) (by omega), ye (t := decide ((n : Int) > 0)) (decide_eq_true (by omega)), .nil, .nil, .apz n (by omega), .trn (List.replicate n [.k (.int .u8 0)]) [] 0 rfl (Nat.zero_le _)] (by kernel_rfl)
noncomputable abbrev fcc : Func := fnOf PP 69
def rowsU (ls : List (List Int)) : List (List V) := ls.map fun b => [.sl (ub b)]
theorem e_concat {ls : List (List Int)} (h0 : 0 < ls.flatten.length) (h1 : ls.flatten.length ≤ 1000) (hn : ls.length ≤ 1000) (hp : ∀ b ∈ ls, 0 < b.length) : Pure PP 69 [.sl (rowsU ls)] (.o 5 1 (ub ls.flatten)) := by
 have hl : (rowsU ls).length = ls.length := List.length_map ..
 have el : ∀ {i}, i < ls.length → (rowsU ls)[i]? = some [.sl (ub (ls.getD i []))] := fun {i} h => by
  unfold rowsU
  rw [List.getElem?_map, List.getD_eq_getElem?_getD, List.getElem?_eq_getElem h]; rfl
 have hx : ∀ {i}, i < ls.length → ls[i]? = some (ls.getD i []) := fun {i} h => by rw [List.getD_eq_getElem?_getD, List.getElem?_eq_getElem h]; rfl
 let S : Nat → List Int := fun i => (ls.take i).flatten
 have hS : ∀ {i}, i < ls.length → S (i + 1) = S i ++ ls.getD i [] := fun {i} h => by simp only [S]; rw [List.take_add_one, hx h]; simp
 have hSl : ∀ i, (S i).length ≤ ls.flatten.length := fun i => by
  have : ls.flatten = S i ++ (ls.drop i).flatten := by simp only [S]; rw [← List.flatten_append, List.take_append_drop]
  rw [this, List.length_append]; omega
 have hSn : S ls.length = ls.flatten := by simp [S]
 let X : Nat → St := fun i => at_ fcc [(0, .sl (rowsU ls)), (3, ni ((S i).length : Int)), (9, .sl (rowsU ls)), (10, ni ((rowsU ls).length : Int)), (11, ni i)] []
 let Y : Nat → St := fun i => at_ fcc [(6, .ow 0), (25, .sl (rowsU ls)), (26, ni ((rowsU ls).length : Int)), (27, ni i)] [.rw 5 1 (ub (S i))]
 refine pf (by kernel_rfl) (.to mo_ [] [0, 3, 9, 10, 11] [] 0 [] (td' := lp fcc 0) (σ' := X 0) ?_ (by kernel_rfl))
 refine Gd.loop X (fun i => i ≤ ls.length) (fun i => ls.length - i) ?_ 0 (Nat.zero_le _)
 intro i hi ih
 by_cases h : i < ls.length
 · have e := el h
   have hs := hS h
   have h2 := hSl (i + 1)
   rw [hs, List.length_append] at h2
   exact .to mo_ [] [0, 3, 9, 10, 11] [] 0 [ye (t := decide ((i : Int) < ((rowsU ls).length : Int))) (decide_eq_true (by omega)), .sel _ _ _ e, .eqv 17 (ni ((ub (ls.getD i [])).length : Int)) (ni ((ls.getD i []).length : Int)) (by rw [ub_len]), wq 18 (((S i).length : Int) + ((ls.getD i []).length : Int)) ((S (i + 1)).length : Int) (by rw [hs, List.length_append]; omega), na (t := decide (((S (i + 1)).length : Int) < 0)) (decide_eq_false (by omega)), inc 22 i (by omega)] (ih (i + 1) h (by omega)) (by kernel_rfl)
 · have hi2 : i = ls.length := by omega
   subst hi2
   refine .to mo_ [] [6, 25, 26, 27] [0] 1 [na (t := decide ((ls.length : Int) < ((rowsU ls).length : Int))) (decide_eq_false (by omega)), .newr true false _ _ _ _ _ (e_grow (n := (S ls.length).length) (by rw [hSn]; exact ⟨h0, h1⟩)) (fun cs h => by cases h)] (td' := lp fcc 1) (σ' := Y 0) ?_ (by kernel_rfl)
   refine Gd.loop Y (fun i => i ≤ ls.length) (fun i => ls.length - i) ?_ 0 (Nat.zero_le _)
   intro i hi jh
   by_cases g : i < ls.length
   · have e := el g
     have hs := hS g
     have h2 := hSl (i + 1)
     have h3 := hp (ls.getD i []) (List.mem_of_getElem? (hx g))
     exact .to mo_ [.mv 0 1] [6, 25, 26, 27] [0] 1 [ye (t := decide ((i : Int) < ((rowsU ls).length : Int))) (decide_eq_true (by omega)), .sel _ _ _ e, .aps (ub (S i)) (ub (ls.getD i [])) (ub (S (i + 1))) 1000 1 (by rw [ub_app, hs]) (by rw [ub_len]; exact h3) (by rw [ub_len]; omega) (ub_ok _), inc 34 i (by omega)] (jh (i + 1) g (by omega)) (by kernel_rfl)
   · have hi3 : i = ls.length := by omega
     subst hi3
     rw [← hSn]
     exact fi [na (t := decide ((ls.length : Int) < ((rowsU ls).length : Int))) (decide_eq_false (by omega))] (by kernel_rfl) (by kernel_rfl)
/-- The number 0. -/
def zR : List V := [bo false, .sl [], bo false, .sl []]
def by0 : List Int := [129, 1, 128]
theorem sm0 : ∀ x ∈ [(0 : Int)], Sm x := by intro x hx; simp at hx; subst hx; exact .inl rfl
theorem e_ienc0 : Pure PP 131 [.ag [bo false, .sl []]] (.o 5 1 (ub by0)) := by
 have hs : Pure PP 155 [.ag [bo false, .sl []]] (ni 0) := by
  have := e_sign 0
  unfold dI at this
  rw [digs_z rfl] at this
  exact this
 exact tr [cl hs, .ape [] rfl, cl (e_wis (l := [0]) (.inr (.inl rfl)) sm0)] (by kernel_rfl)
noncomputable def fI0 : F_ := .newr false true _ _ _ _ _ e_ienc0 (ub_k _)
theorem e_renc0 : Pure PP 70 [.ag zR] (.o 5 1 (ub (by0 ++ by0))) :=
 tr [fI0, fI0, cl (e_concat (ls := [by0, by0]) (by decide) (by decide) (by decide) (by decide))] (by kernel_rfl)
end Go.Proofs.YtmhliomemdhmiaaGreatDoor.E.Ca
