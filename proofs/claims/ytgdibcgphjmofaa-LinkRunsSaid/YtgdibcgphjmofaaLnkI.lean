/-
 THE WALK of link.Open.
-/
import Derived.Test.YtgdibcgphjmofaaLnkH
import Derived.ChangeKeysEq
namespace Go.Proofs.Ytgdibcgphjmofaa
set_option maxHeartbeats 4000000
open Go.RowKit
set_option linter.unusedVariables false
theorem part_b (l : List UInt8) (i : Nat) (hi : i < l.length) (w : World) : (part 5 (W.bc l).toArray i).run Try.prog w = .ok (.int .u8 ((l[i]'hi).toNat : Int)) w := by
 obtain ⟨i0, hi0, hz0, hz1, hz2⟩ := info_parts info_u8
 have h1 : (W.bc l)[i]? = some (.int .u8 ((l[i]'hi).toNat : Int)) := W.bc_get l i hi
 have h2 : (W.bc l)[i]'(by simpa using hi) = .int .u8 ((l[i]'hi).toNat : Int) := by
  rw [List.getElem?_eq_getElem (by simpa using hi)] at h1
  injection h1
 simp [part, isAgg, run_underlying Try.underlying5, hi, h2]
theorem eqItems_b (l m : List UInt8) (w : World) : ∀ (is : List Nat), (∀ i ∈ is, i < l.length ∧ i < m.length) → (Op.eqItems 9999 5 1 (W.bc l).toArray (W.bc m).toArray is).run Try.prog w = .ok (decide (∀ i ∈ is, l[i]? = m[i]?)) w
 | [], _ => by simp [Op.eqItems]
 | i :: is, h => by
  have h1 := h i (by simp)
  simp only [Op.eqItems, Sem.run_bind, Nat.mul_one, part_b l i h1.1 w, part_b m i h1.2 w, Result.andThen_ok]
  rw [run_equalIn_int w 9998 5 .u8 .u8 _ _ Try.underlying5]
  by_cases he : l[i]'h1.1 = m[i]'h1.2
  ·rw [he]
   simp only [beq_self_eq_true, Result.andThen_ok, Bool.not_true, Bool.false_eq_true, if_false]
   rw [eqItems_b l m w is (fun j hj => h j (by simp [hj]))]
   congr 2
   simp only [List.mem_cons, forall_eq_or_imp, List.getElem?_eq_getElem h1.1, List.getElem?_eq_getElem h1.2, he, true_and]
  ·have hb : (((l[i]'h1.1).toNat : Int) == ((m[i]'h1.2).toNat : Int)) = false := by
    rw [beq_eq_false_iff_ne]
    intro e
    exact he (UInt8.toNat_inj.1 (by omega))
   simp only [hb, Result.andThen_ok, Bool.not_false, if_true]
   have : ¬ (∀ j ∈ i :: is, l[j]? = m[j]?) := fun hh => he (by
    have h2 := hh i (by simp)
    rw [List.getElem?_eq_getElem h1.1, List.getElem?_eq_getElem h1.2] at h2
    injection h2)
   rw [decide_eq_false this]
   rfl
theorem neq_arr8 (l m : List UInt8) (hl : l.length = 8) (hm : m.length = 8) (w : World) : (binOp .neq 79 (.agg (W.bc l).toArray) (.agg (W.bc m).toArray)).run Try.prog w = .ok (.bool (decide (l ≠ m))) w := by
 obtain ⟨i0, hi0, hz0, hz1, hz2⟩ := info_parts info_u8
 rw [run_neq_struct, run_equalIn_array (P := Try.prog) (w := w) 9999 _ _ Try.underlying79 hi0]
 have hc : Try.prog.cellsOf 5 = 1 := by kernel_rfl
 rw [hc, eqItems_b l m w _ (fun i hi => by rw [hl, hm]; simpa using hi)]
 simp only [Result.andThen_ok]
 congr 2
 have : (∀ i ∈ List.range 8, l[i]? = m[i]?) ↔ l = m := by
  constructor
  ·intro h
   apply List.ext_getElem?
   intro i
   by_cases hi : i < 8
   ·exact h i (by simpa using hi)
   ·rw [List.getElem?_eq_none (by omega), List.getElem?_eq_none (by omega)]
  ·rintro rfl
   simp
 by_cases he : l = m
 ·rw [decide_eq_true (this.2 he), decide_eq_false (by simpa using he)]; rfl
 ·rw [decide_eq_false (fun h => he (this.1 h)), decide_eq_true (by simpa using he)]; rfl
theorem open_seal (key : Int) (b o c M : Nat) (l r : List UInt8) (H : Int) (w wx : World) (hb : b < w.heap.size) (hcell : ∀ j u, (W.bc (l ++ r))[j]? = some u → w.cell? ⟨b, o + j, none⟩ = some u) (hl : l.length = M) (hc : M ≤ c) (hm : c ≤ maxLen) (hH : K.hash key l = H) (h : Below w.heap.size w wx) :
  Calls Try.prog 41 #[.int .u64 key, .slice (some ⟨b, o, none⟩) M c] wx fun e w' => e = .returned (.agg #[.int .u8 (H % 256), .int .u8 (H / 256 % 256), .int .u8 (H / 65536 % 256), .int .u8 (H / 16777216 % 256), .int .u8 (H / 4294967296 % 256), .int .u8 (H / 1099511627776 % 256), .int .u8 (H / 281474976710656 % 256), .int .u8 (H / 72057594037927936 % 256)]) ∧ Below wx.heap.size wx w' := by
 subst hl; subst hH
 refine seal_any key l (some ⟨b, o, none⟩) c wx ?_ hc hm
 refine Rd.mono (Rd.below (w := w) (B := w.heap.size) (fun _ => ⟨b, o, rfl, hb, fun j u hu => hcell j u ?_⟩) h (Nat.le_refl _)) h.size
 rw [W.bc_append, List.getElem?_append_left (List.getElem?_eq_some_iff.1 hu).1]
 exact hu
theorem open_cells (b o M : Nat) (l : List UInt8) (y0 y1 y2 y3 y4 y5 y6 y7 : UInt8) (w wx : World) (hb : b < w.heap.size) (hcell : ∀ j u, (W.bc (l ++ [y0, y1, y2, y3, y4, y5, y6, y7]))[j]? = some u → w.cell? ⟨b, o + j, none⟩ = some u) (hl : l.length = M) (h : Below w.heap.size w wx) :
  wx.cell? ⟨b, o + M, none⟩ = some (.int .u8 (y0.toNat : Int)) ∧ wx.cell? ⟨b, o + M + 1, none⟩ = some (.int .u8 (y1.toNat : Int)) ∧ wx.cell? ⟨b, o + M + 2, none⟩ = some (.int .u8 (y2.toNat : Int)) ∧ wx.cell? ⟨b, o + M + 3, none⟩ = some (.int .u8 (y3.toNat : Int)) ∧
  wx.cell? ⟨b, o + M + 4, none⟩ = some (.int .u8 (y4.toNat : Int)) ∧ wx.cell? ⟨b, o + M + 5, none⟩ = some (.int .u8 (y5.toNat : Int)) ∧ wx.cell? ⟨b, o + M + 6, none⟩ = some (.int .u8 (y6.toNat : Int)) ∧ wx.cell? ⟨b, o + M + 7, none⟩ = some (.int .u8 (y7.toNat : Int)) := by
 have key : ∀ (j : Nat) (y : UInt8), [y0, y1, y2, y3, y4, y5, y6, y7][j]? = some y → wx.cell? ⟨b, o + M + j, none⟩ = some (.int .u8 (y.toNat : Int)) := by
  intro j y hy
  rw [h.cell (p := ⟨b, o + M + j, none⟩) hb, Nat.add_assoc]
  refine hcell (M + j) _ ?_
  rw [W.bc_append, List.getElem?_append_right (by simp; omega)]
  simp only [W.bc_length, hl, Nat.add_sub_cancel_left]
  exact bc_at _ hy
 exact ⟨key 0 _ rfl, key 1 _ rfl, key 2 _ rfl, key 3 _ rfl, key 4 _ rfl, key 5 _ rfl, key 6 _ rfl, key 7 _ rfl⟩
theorem open_clone (b o c M : Nat) (l r : List UInt8) (w wx : World) (hb : b < w.heap.size) (hcell : ∀ j u, (W.bc (l ++ r))[j]? = some u → w.cell? ⟨b, o + j, none⟩ = some u) (hl : l.length = M) (hc : M ≤ c) (hm : c ≤ maxLen) (hM : M ≤ 140737488355328) (h : Below w.heap.size w wx) :
  Calls Try.prog 32 #[.slice (some ⟨b, o, none⟩) M c] wx (RB_ l wx) := by
 subst hl
 refine clone_any b o c l wx (Nat.lt_of_lt_of_le hb h.size) (fun j u hu => (h.cell (p := ⟨b, o + j, none⟩) hb).trans (hcell j u ?_)) hc hm hM
 rw [W.bc_append, List.getElem?_append_left (List.getElem?_eq_some_iff.1 hu).1]
 exact hu
/-- What opens returns. -/
def ROp (r : List UInt8 × Int) (w : World) (e : Ending) (w' : World) : Prop := ∃ v, e = .returned (.tuple #[v, .int .i64 r.2]) ∧ w'.ownsRow w.heap.size 5 1 v r.1.length (W.bc r.1) ∧ Below w.heap.size w w'
/-- What opens, plainly. -/
def K.unseal (key : Int) (l : List UInt8) : List UInt8 × Int :=
 if l.length < 8 then ([], 2) else if K.seal8 (K.hash key (l.take (l.length - 8))) ≠ l.drop (l.length - 8) then ([], 9) else (l.take (l.length - 8), 0)
def K.pickB (g : Bool) (l : List UInt8) : List UInt8 × Int := if g then ([], 9) else (l, 0)
theorem open_short (key : Int) (A : Option Addr) (n c : Nat) (w : World) (hn : n < 8) : Calls Try.prog 25 #[.int .u64 key, .slice A n c] w (ROp ([], 2) w) := by
 have hd : (n : Int) - 8 < 0 := by omega
 go_enter Try.func25, Try.ntmps25
 go_wp2
 go_ret2
 exact ⟨_, rfl, World.ownsRow_nil _ _ _ _, Below.refl _ _⟩
set_option maxRecDepth 100000 in
theorem open_long (key : Int) (b o c M : Nat) (l : List UInt8) (y0 y1 y2 y3 y4 y5 y6 y7 : UInt8) (B : Nat) (w : World) (hb : b < w.heap.size) (hcell : ∀ j u, (W.bc (l ++ [y0, y1, y2, y3, y4, y5, y6, y7]))[j]? = some u → w.cell? ⟨b, o + j, none⟩ = some u) (hl : l.length = M) (hc : M + 8 ≤ c) (hm : c ≤ maxLen) (hM1 : M ≤ 140737488355328)
  (g : Bool) (H : Int) (hH : K.hash key l = H) (hE : ∀ w : World, (binOp .neq 79 (.agg #[.int .u8 (H % 256), .int .u8 (H / 256 % 256), .int .u8 (H / 65536 % 256), .int .u8 (H / 16777216 % 256), .int .u8 (H / 4294967296 % 256), .int .u8 (H / 1099511627776 % 256), .int .u8 (H / 281474976710656 % 256), .int .u8 (H / 72057594037927936 % 256)]) (.agg #[.int .u8 (y0.toNat : Int), .int .u8 (y1.toNat : Int), .int .u8 (y2.toNat : Int), .int .u8 (y3.toNat : Int), .int .u8 (y4.toNat : Int), .int .u8 (y5.toNat : Int), .int .u8 (y6.toNat : Int), .int .u8 (y7.toNat : Int)])).run Try.prog w = .ok (.bool g) w) :
  Calls Try.prog 25 #[.int .u64 key, .slice (some ⟨b, o, none⟩) (M + 8) c] w (ROp (K.pickB g l) w) := by
 have HE := Lib.hid hE; have HCE := Lib.hid hcell; have HH := Lib.hid hH; have HL := Lib.hid hl; clear hE hcell hH hl
 unfold maxLen at hm
 have hM8 : (M : Int) ≤ (M : Int) + 8 := by omega
 have hMc : M ≤ c := by omega
 have hcM : ¬ c = M := by omega
 have hn : ((M + 8 : Nat) : Int) - 8 = (M : Int) := by omega
 go_enter Try.func25, Try.ntmps25
 go_wp2_with fail
 have HS := Lib.hid (fun (wx : World) (h : Below w.heap.size w wx) => open_seal key b o c M l [y0, y1, y2, y3, y4, y5, y6, y7] H w wx hb HCE.out HL.out hMc (by unfold maxLen; omega) HH.out h)
 have HC := Lib.hid (fun (wx : World) (h : Below w.heap.size w wx) => open_cells b o M l y0 y1 y2 y3 y4 y5 y6 y7 w wx hb HCE.out HL.out h)
 go_upto_region 4 with fail
 generalize hW_4 : w.drew = W_4
 refine gen_act ?_
 intro F_ hF_
 have ev0 : F_.eval (.tmp 0) = .int .u64 key := by rw [← hF_]; rfl
 have ev1 : F_.eval (.tmp 1) = .slice (some ⟨b, o, none⟩) (M + 8) c := by rw [← hF_]; rfl
 have ev6 : F_.eval (.tmp 6) = .int .i64 (M : Int) := by rw [← hF_]; rfl
 have hsz_ : ∀ d ∈ ([(12, []), (13, []), (14, []), (15, [1, 2]), (16, [0, 3]), (17, []), (18, []), (19, [5, 6]), (20, [7]), (21, [8]), (22, [4, 9])] : List (Nat × List Nat)).map (·.1), d < F_.tmps.size := by rw [← hF_]; simp
 have HF_ := Lib.hid hF_; clear hF_
 refine wp_flow_tab true hW_4 11 [(12, []), (13, []), (14, []), (15, [1, 2]), (16, [0, 3]), (17, []), (18, []), (19, [5, 6]), (20, [7]), (21, [8]), (22, [4, 9])] [SC (.int .u64 key), SC (.slice (some ⟨b, o, none⟩) (M + 8) c), SC (.int .i64 (M : Int)), SC (.slice (some ⟨b, o, none⟩) M c), SC (.agg #[.int .u8 (H % 256), .int .u8 (H / 256 % 256), .int .u8 (H / 65536 % 256), .int .u8 (H / 16777216 % 256), .int .u8 (H / 4294967296 % 256), .int .u8 (H / 1099511627776 % 256), .int .u8 (H / 281474976710656 % 256), .int .u8 (H / 72057594037927936 % 256)]), SC (.slice (some ⟨b, o, none⟩) (M + 8) c), SC (.int .i64 (M : Int)), SC (.slice (some ⟨b, o + M, none⟩) 8 (c - M)), SC (.pointer (some ⟨b, o + M, none⟩)), SC (.agg #[.int .u8 (y0.toNat : Int), .int .u8 (y1.toNat : Int), .int .u8 (y2.toNat : Int), .int .u8 (y3.toNat : Int), .int .u8 (y4.toNat : Int), .int .u8 (y5.toNat : Int), .int .u8 (y6.toNat : Int), .int .u8 (y7.toNat : Int)]), SC (.bool g)] [false, false, false, false, false, false, false, false, false, false, false] (by kernel_rfl) (by kernel_rfl) (by kernel_rfl) (by kernel_rfl) (by kernel_rfl) hsz_ ⟨SC.mono _, SC.mono _, SC.mono _, SC.mono _, SC.mono _, SC.mono _, SC.mono _, SC.mono _, SC.mono _, SC.mono _, SC.mono _, trivial⟩ ?_ ?_
 ·intro kq hkq a wx hB hp hs
  have hBo : Below w.heap.size w wx := dB hW_4 hB
  have hcase : kq = 0 ∨ kq = 1 ∨ kq = 2 ∨ kq = 3 ∨ kq = 4 ∨ kq = 5 ∨ kq = 6 ∨ kq = 7 ∨ kq = 8 ∨ kq = 9 ∨ kq = 10 := by omega
  rcases hcase with rfl | rfl | rfl | rfl | rfl | rfl | rfl | rfl | rfl | rfl | rfl
  ·clear hp
   exact ⟨_, rfl, op_mv (s := SC _) rfl ((hs 0 rfl).trans ev0)⟩
  ·clear hp
   exact ⟨_, rfl, op_mv (s := SC _) rfl ((hs 1 rfl).trans ev1)⟩
  ·clear hp
   exact ⟨_, rfl, op_mv (s := SC _) rfl ((hs 6 rfl).trans ev6)⟩
  ·obtain ⟨k0, k1, -⟩ := hp
   have e0 : a.eval (.tmp 13) = .slice (some ⟨b, o, none⟩) (M + 8) c := k0
   simp [Act.eval] at e0
   have e1 : a.eval (.tmp 14) = .int .i64 (M : Int) := k1
   simp [Act.eval] at e1
   exact ⟨_, rfl, Does.val (by simp [execOp, Act.eval, e0, e1, go_sem, hMc]) rfl⟩
  ·obtain ⟨k0, k1, -⟩ := hp
   exact ⟨_, rfl, Does.rc (f := 41) (call2 rfl (fun _ => by simp [go_sem]) k0 k1) (HS.out wx hBo)⟩
  ·clear hp
   exact ⟨_, rfl, op_mv (s := SC _) rfl ((hs 1 rfl).trans ev1)⟩
  ·clear hp
   exact ⟨_, rfl, op_mv (s := SC _) rfl ((hs 6 rfl).trans ev6)⟩
  ·obtain ⟨k0, k1, -⟩ := hp
   have e0 : a.eval (.tmp 17) = .slice (some ⟨b, o, none⟩) (M + 8) c := k0
   simp [Act.eval] at e0
   have e1 : a.eval (.tmp 18) = .int .i64 (M : Int) := k1
   simp [Act.eval] at e1
   exact ⟨_, rfl, Does.val (by simp [execOp, Act.eval, e0, e1, go_sem, hM8, hcM]) rfl⟩
  ·obtain ⟨k0, -⟩ := hp
   have e0 : a.eval (.tmp 19) = .slice (some ⟨b, o + M, none⟩) 8 (c - M) := k0
   simp [Act.eval] at e0
   exact ⟨_, rfl, Does.val (by simp [execOp, Act.eval, e0, go_sem, Instr.arrayAt, run_underlying Try.underlying79]) rfl⟩
  ·obtain ⟨k0, -⟩ := hp
   obtain ⟨q0, q1, q2, q3, q4, q5, q6, q7⟩ := HC.out wx hBo
   have e0 : a.eval (.tmp 20) = .pointer (some ⟨b, o + M, none⟩) := k0
   simp [Act.eval] at e0
   exact ⟨_, rfl, Does.val (by simp [execOp, Act.eval, e0, go_sem, q0, q1, q2, q3, q4, q5, q6, q7]) rfl⟩
  ·obtain ⟨k0, k1, -⟩ := hp
   have e0 : a.eval (.tmp 16) = .agg #[.int .u8 (H % 256), .int .u8 (H / 256 % 256), .int .u8 (H / 65536 % 256), .int .u8 (H / 16777216 % 256), .int .u8 (H / 4294967296 % 256), .int .u8 (H / 1099511627776 % 256), .int .u8 (H / 281474976710656 % 256), .int .u8 (H / 72057594037927936 % 256)] := k0
   simp [Act.eval] at e0
   have e1 : a.eval (.tmp 21) = .agg #[.int .u8 (y0.toNat : Int), .int .u8 (y1.toNat : Int), .int .u8 (y2.toNat : Int), .int .u8 (y3.toNat : Int), .int .u8 (y4.toNat : Int), .int .u8 (y5.toNat : Int), .int .u8 (y6.toNat : Int), .int .u8 (y7.toNat : Int)] := k1
   simp [Act.eval] at e1
   exact ⟨_, rfl, Does.val (by simp [execOp, Act.eval, e0, e1, go_sem, HE.out]) rfl⟩
 ·intro val wx hB hsp hdis
  have hBo : Below w.heap.size w wx := dB hW_4 hB
  have e10 : val 10 = .bool g := hsp 10 (by omega)
  rw [← HF_.out]
  change wpList _ _ _ [] _ _
  simp only [puts_consT, puts_nilm, vals, List.map_cons, List.map_nil, Nat.zero_add, Nat.reduceAdd, e10, List.setIfInBounds_toArray, List.set_cons_succ, List.set_cons_zero]
  clear hsp hdis HF_ hsz_ hB hW_4 e10 ev0 ev1 ev6
  have HB := Lib.hid hBo; clear hBo
  cases g with
  | true =>
   go_wp2
   go_ret2
   exact ⟨_, rfl, World.ownsRow_nil _ _ _ _, HB.out⟩
  | false =>
   go_wp2_with fail
   refine (open_clone b o c M l [y0, y1, y2, y3, y4, y5, y6, y7] w wx hb HCE.out HL.out hMc (by unfold maxLen; omega) hM1 HB.out).mono ?_
   rintro e w3 ⟨v3, rfl, hown, k2⟩
   have k3 := Lib.hid (Blw HB.out k2)
   have HO := Lib.hid (own_base hown (base' := w.heap.size) HB.out.size)
   clear hown k2
   go_wp2
   go_ret2
   exact ⟨_, rfl, HO.out, k3.out⟩
theorem list8 (r : List UInt8) (h : r.length = 8) : ∃ y0 y1 y2 y3 y4 y5 y6 y7, r = [y0, y1, y2, y3, y4, y5, y6, y7] := by
 match r, h with
 | [y0, y1, y2, y3, y4, y5, y6, y7], _ => exact ⟨_, _, _, _, _, _, _, _, rfl⟩
theorem open_any (key : Int) (A : Option Addr) (c B : Nat) (l : List UInt8) (w : World) (hr : Rd w B A (W.bc l)) (hB : B ≤ w.heap.size) (hc : l.length ≤ c) (hm : c ≤ maxLen) (hl : l.length ≤ 140737488355328) :
  Calls Try.prog 25 #[.int .u64 key, .slice A l.length c] w (ROp (K.unseal key l) w) := by
 by_cases h8 : l.length < 8
 ·unfold K.unseal
  rw [if_pos h8]
  exact open_short key A l.length c w h8
 ·obtain ⟨b, o, rfl, hb, hcell⟩ := hr (by simp; omega)
  obtain ⟨y0, y1, y2, y3, y4, y5, y6, y7, hy⟩ := list8 (l.drop (l.length - 8)) (by simp; omega)
  have hlt : (l.take (l.length - 8)).length = l.length - 8 := by simp
  have hsp : l.take (l.length - 8) ++ [y0, y1, y2, y3, y4, y5, y6, y7] = l := by rw [← hy]; exact List.take_append_drop _ _
  have h := open_long key b o c (l.length - 8) (l.take (l.length - 8)) y0 y1 y2 y3 y4 y5 y6 y7 B w (by omega) (by rw [hsp]; exact hcell) hlt (by omega) hm (by omega)
   (decide (K.seal8 (K.hash key (l.take (l.length - 8))) ≠ [y0, y1, y2, y3, y4, y5, y6, y7])) (K.hash key (l.take (l.length - 8))) rfl (fun w => ?_)
  ·unfold K.unseal
   rw [if_neg h8, hy]
   rw [show l.length - 8 + 8 = l.length by omega] at h
   by_cases he : K.seal8 (K.hash key (l.take (l.length - 8))) ≠ [y0, y1, y2, y3, y4, y5, y6, y7]
   ·rw [if_pos he]
    rw [decide_eq_true he] at h
    exact h
   ·rw [if_neg he]
    rw [decide_eq_false he] at h
    exact h
  ·have h1 := neq_arr8 (K.seal8 (K.hash key (l.take (l.length - 8)))) [y0, y1, y2, y3, y4, y5, y6, y7] rfl rfl w
   generalize K.hash key (l.take (l.length - 8)) = H at h1 ⊢
   rw [← h1]
   congr 3
   simp [W.bc, K.seal8, K.sealB_cell]
end Go.Proofs.Ytgdibcgphjmofaa
