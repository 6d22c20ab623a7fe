/-
 THE WALK of slices.Delete from the beginning of a row of slices of bytes.
-/
import Derived.Test.YtgdibcgphjmofaaLnkQ
namespace Go.Proofs.Ytgdibcgphjmofaa
set_option maxHeartbeats 1000000
open Go.RowKit
open Go.Maps
set_option linter.unusedVariables false
theorem setCells_row (g T : Nat) (fr : Nat × Nat) : ∀ (us : List Value) (o : Nat) (w : World) (cur : Array Value), w.heap[g]? = some (.cells cur T fr) →
  ∃ cur', (w.setCells g o us).heap[g]? = some (.cells cur' T fr) ∧ cur'.size = cur.size ∧ ∀ j, j < o → cur'[j]? = cur[j]?
 | [], o, w, cur, h => ⟨cur, h, rfl, fun _ _ => rfl⟩
 | u :: us, o, w, cur, h => by
  have h1 : (w.setCell ⟨g, o, none⟩ u).heap[g]? = some (.cells (cur.setIfInBounds o u) T fr) := by
   simp [World.setCell, Array.getElem?_modify, h]
  obtain ⟨cur', h2, h3, h4⟩ := setCells_row g T fr us (o + 1) _ _ h1
  refine ⟨cur', h2, by simpa using h3, fun j hj => ?_⟩
  rw [h4 j (by omega), Array.getElem?_setIfInBounds_ne (by omega)]
theorem setCells_other (g k : Nat) (hk : k ≠ g) : ∀ (us : List Value) (o : Nat) (w : World), (w.setCells g o us).heap[k]? = w.heap[k]?
 | [], o, w => rfl
 | u :: us, o, w => (setCells_other g k hk us (o + 1) _).trans (Below.heap_setCell w ⟨g, o, none⟩ u k hk)
theorem setCells_meta (g : Nat) : ∀ (us : List Value) (o : Nat) (w : World), (w.setCells g o us).os = w.os ∧ (w.setCells g o us).tape = w.tape ∧ (w.setCells g o us).output = w.output ∧ (w.setCells g o us).heap.size = w.heap.size
 | [], o, w => ⟨rfl, rfl, rfl, rfl⟩
 | u :: us, o, w => by
  have h := setCells_meta g us (o + 1) (w.setCell ⟨g, o, none⟩ u)
  exact ⟨h.1, h.2.1, h.2.2.1, h.2.2.2.trans (by simp [World.setCell])⟩
/-- What Delete leaves. -/
theorem del_world {w wx : World} {g N n cap : Nat} {cur : Array Value} {vs : List Value} (hB : Below w.heap.size w wx) (hg : w.heap[g]? = some (.cells cur 33 (0, 0))) (h1 : N ≤ cap) (h2 : cap ≤ maxLen) (h3 : cur.size = cap) (h4 : cur.toList.take N = vs) (hn : n ≤ N) :
  ((wx.setRow g (vs.drop n ++ cur.toList.drop (N - n)).toArray).setCells g (N - n) (List.replicate n (.slice none 0 0))).ownsRow 0 33 1 (.slice (some ⟨g, 0, none⟩) (N - n) cap) (N - n) (vs.drop n) ∧
  TT [g] w ((wx.setRow g (vs.drop n ++ cur.toList.drop (N - n)).toArray).setCells g (N - n) (List.replicate n (.slice none 0 0))) := by
 have hgl : g < w.heap.size := (Array.getElem?_eq_some_iff.1 hg).1
 have hgx : wx.heap[g]? = some (.cells cur 33 (0, 0)) := (hB.block g hgl).trans hg
 have hvl : vs.length = N := by rw [← h4]; simp; omega
 have hrow := setRow_heap wx g cur (vs.drop n ++ cur.toList.drop (N - n)).toArray 33 (0, 0) hgx
 obtain ⟨cur', k0, k1, k2⟩ := setCells_row g 33 (0, 0) (List.replicate n (.slice none 0 0)) (N - n) _ _ hrow
 obtain ⟨m1, m2, m3, m4⟩ := setCells_meta g (List.replicate n (.slice none 0 0)) (N - n) (wx.setRow g (vs.drop n ++ cur.toList.drop (N - n)).toArray)
 have hb : ∀ k, k < w.heap.size → k ≠ g → ((wx.setRow g (vs.drop n ++ cur.toList.drop (N - n)).toArray).setCells g (N - n) (List.replicate n (.slice none 0 0))).heap[k]? = w.heap[k]? := fun k hk hkg => by
  rw [setCells_other g k hkg, setRow_other wx g k _ hkg]
  exact hB.block k hk
 have hsz : w.heap.size ≤ ((wx.setRow g (vs.drop n ++ cur.toList.drop (N - n)).toArray).setCells g (N - n) (List.replicate n (.slice none 0 0))).heap.size := by
  rw [m4]
  have := hB.size
  simpa [World.setRow] using this
 refine ⟨⟨by simp; omega, .inr ⟨g, cap, cur', rfl, Nat.zero_le _, k0, by omega, h2, ?_, ?_⟩⟩, ⟨m1.trans hB.os, m2.trans hB.tape, m3.trans hB.output, hsz, fun k hk hn => hb k hk (by simpa using hn)⟩, hsz, fun b cs fr e => ?_⟩
 ·rw [k1]
  simp
  omega
 ·rw [Nat.mul_one]
  apply List.ext_getElem?
  intro j
  rw [List.getElem?_take]
  by_cases hj : j < N - n
  ·rw [if_pos hj, Array.getElem?_toList, k2 j hj, List.getElem?_toArray, List.getElem?_append_left (by simp; omega)]
  ·rw [if_neg hj, List.getElem?_eq_none (by simp; omega)]
 ·have hbg : b ≠ g := by
   rintro rfl
   rw [hg] at e
   injection e with e
   injection e with _ e _
   exact absurd e (by decide)
  exact (hb b (Array.getElem?_eq_some_iff.1 e).1 hbg).trans e
theorem del_app {o : Oper} {a : Act} {K : Act → World → Prop} {Q : Exit → Act → World → Prop} {wx W1 : World} {x y : Operand} {g N n cap c2 : Nat} {AD : Addr} {cur : Array Value} {vs : List Value}
  (ho : o.op = .call { callee := .builtin .append, args := #[x, y], argTypes := #[28, 28] }) (ex : a.eval x = .slice (some ⟨g, 0, none⟩) 0 cap) (ey : a.eval y = .slice (some AD) (N - n) c2)
  (hg : wx.heap[g]? = some (.cells cur 33 (0, 0))) (hs : ∀ t u, (vs.drop n)[t]? = some u → wx.cell? (AD.add t) = some u) (h1 : ∀ u ∈ vs, u.oneCell' = true) (hv : vs.length = N) (hc : cur.size = cap) (hn : n ≤ N) (hN : N ≤ cap)
  (hW : W1 = wx.setRow g (vs.drop n ++ cur.toList.drop (N - n)).toArray) (h : K (a.put o.dst (.slice (some ⟨g, 0, none⟩) (N - n) cap)) W1) : o.wp Try.prog a wx K Q := by
 obtain ⟨i0, hi, hz0, hz1, hz2⟩ := info_parts info_b
 have hlen : (vs.drop n).length = N - n := by rw [List.length_drop, hv]
 have hr := run_append_room (P := Try.prog) wx 28 o.type 33 i0 Try.underlying28 hi g 0 cap cur hg AD (N - n) c2 (vs.drop n) (by rw [hz1, hlen]; omega) hs (fun u hu => h1 u (List.mem_of_mem_drop hu)) (by omega) (by rw [hlen, hc]; omega)
 simp only [Nat.zero_mul, List.take_zero, List.nil_append, Nat.zero_add, hlen] at hr
 rw [← hW] at hr
 unfold Oper.wp execOp
 simp only [ho, resolve, invoke, builtin, Sem.run_bind, Sem.run_pure, Result.andThen_ok, List.map_toArray, List.map_cons, List.map_nil, ex, ey, hr]
 exact h
/-- What Delete returns. -/
def RDel (N n : Nat) (vs : List Value) (rv : Value) (w : World) (e : Ending) (w' : World) : Prop := ∃ v, e = .returned v ∧ w'.ownsRow 0 33 1 v (N - n) (vs.drop n) ∧ v.ownBlock = rv.ownBlock ∧ TT rv.ownBlock.toList w w'
set_option maxRecDepth 100000 in
theorem delete_any (rv : Value) (N n : Nat) (vs : List Value) (w : World) (hown : w.ownsRow 0 33 1 rv N vs) (h1c : ∀ u ∈ vs, u.oneCell' = true) (h0 : 0 < n) (hn : n ≤ N) :
  Calls Try.prog 37 #[rv, .int .i64 0, .int .i64 (n : Int)] w (RDel N n vs rv w) := by
 obtain ⟨i0, hi, hz0, hz1, hz2⟩ := info_parts info_b
 rcases hown.2 with ⟨rfl, h⟩ | ⟨g, cap, cur, rfl, _, hg, hN, hm, hcs, htk⟩
 ·omega
 rw [Nat.mul_one] at hcs htk
 have hgl : g < w.heap.size := (Array.getElem?_eq_some_iff.1 hg).1
 have hvl : vs.length = N := by have := hown.1; omega
 clear hown
 obtain ⟨AD, hAD, hsrc⟩ : ∃ AD : Addr, (if cap = n then (some ⟨g, 0, none⟩ : Option Addr) else some ⟨g, n, none⟩) = some AD ∧ Hid (∀ wx : World, Below w.heap.size w wx → ∀ t u, (vs.drop n)[t]? = some u → wx.cell? (AD.add t) = some u) := by
  refine ⟨if cap = n then (⟨g, 0, none⟩ : Addr) else ⟨g, n, none⟩, by split <;> rfl, Lib.hid (fun wx hB t u hu => ?_)⟩
  have ht := (List.getElem?_eq_some_iff.1 hu).1
  rw [List.length_drop] at ht
  rw [if_neg (by omega), Addr.add_lit, hB.cell (p := ⟨g, n + t, none⟩) hgl, cell_of_row w g (n + t) _ _ _ hg]
  rw [List.getElem?_drop, ← htk, List.getElem?_take] at hu
  split at hu
  ·simpa using hu
  ·cases hu
 have HW := Lib.hid (fun (wx : World) (hB : Below w.heap.size w wx) => del_world hB hg hN hm hcs htk hn)
 have HG := Lib.hid (fun (wx : World) (hB : Below w.heap.size w wx) => (hB.block g hgl).trans hg)
 have HV := Lib.hid hvl; have HC := Lib.hid hcs; have H1 := Lib.hid h1c
 have hd : ((0 : Int) == (n : Int)) = false := beq_eq_false_iff_ne.2 (by omega)
 have hnN : (n : Int) ≤ (N : Int) := by omega
 unfold maxLen at hm
 clear hg hcs htk hvl h1c
 go_enter Try.func37, Try.ntmps37
 go_wp2_with fail
 go_upto_region 5 with fail
 generalize hW_5 : w.drew = W_5
 refine gen_act ?_
 intro F_ hF_
 have ev0 : F_.eval (.tmp 0) = .slice (some ⟨g, 0, none⟩) N cap := by rw [← hF_]; rfl
 have ev1 : F_.eval (.tmp 1) = .int .i64 0 := by rw [← hF_]; rfl
 have ev2 : F_.eval (.tmp 2) = .int .i64 (n : Int) := by rw [← hF_]; rfl
 have hsz_ : ∀ d ∈ ([(20, []), (21, []), (22, [0, 1]), (23, []), (24, []), (25, [3, 4])] : List (Nat × List Nat)).map (·.1), d < F_.tmps.size := by rw [← hF_]; simp
 have HF_ := Lib.hid hF_; clear hF_
 refine wp_flow_tab true hW_5 6 [(20, []), (21, []), (22, [0, 1]), (23, []), (24, []), (25, [3, 4])] [SC (.slice (some ⟨g, 0, none⟩) N cap), SC (.int .i64 0), SC (.slice (some ⟨g, 0, none⟩) 0 cap), SC (.slice (some ⟨g, 0, none⟩) N cap), SC (.int .i64 (n : Int)), SC (.slice (some AD) (N - n) (cap - n))] [false, false, false, false, false, false] (by kernel_rfl) (by kernel_rfl) (by kernel_rfl) (by kernel_rfl) (by kernel_rfl) hsz_ ⟨SC.mono _, SC.mono _, SC.mono _, SC.mono _, SC.mono _, SC.mono _, trivial⟩ ?_ ?_
 ·intro kq hkq a wx hB hp hs
  have hBo : Below w.heap.size w wx := dB hW_5 hB
  have hcase : kq = 0 ∨ kq = 1 ∨ kq = 2 ∨ kq = 3 ∨ kq = 4 ∨ kq = 5 := by omega
  rcases hcase with rfl | rfl | rfl | rfl | rfl | rfl
  ·clear hp
   exact ⟨_, rfl, op_mv (s := SC _) rfl ((hs 0 rfl).trans ev0)⟩
  ·clear hp
   exact ⟨_, rfl, op_mv (s := SC _) rfl ((hs 1 rfl).trans ev1)⟩
  ·obtain ⟨k0, k1, -⟩ := hp
   have e0 : a.eval (.tmp 20) = .slice (some ⟨g, 0, none⟩) N cap := k0
   simp [Act.eval] at e0
   have e1 : a.eval (.tmp 21) = .int .i64 0 := k1
   simp [Act.eval] at e1
   exact ⟨_, rfl, Does.val (by simp [execOp, Act.eval, e0, e1, go_sem]) rfl⟩
  ·clear hp
   exact ⟨_, rfl, op_mv (s := SC _) rfl ((hs 0 rfl).trans ev0)⟩
  ·clear hp
   exact ⟨_, rfl, op_mv (s := SC _) rfl ((hs 2 rfl).trans ev2)⟩
  ·obtain ⟨k0, k1, -⟩ := hp
   have e0 : a.eval (.tmp 23) = .slice (some ⟨g, 0, none⟩) N cap := k0
   simp [Act.eval] at e0
   have e1 : a.eval (.tmp 24) = .int .i64 (n : Int) := k1
   simp [Act.eval] at e1
   exact ⟨_, rfl, Does.val (by simp [execOp, Act.eval, e0, e1, go_sem, hnN, hAD]) rfl⟩
 ·intro val wx hB hsp hdis
  have hBo : Below w.heap.size w wx := dB hW_5 hB
  have e2 : val 2 = .slice (some ⟨g, 0, none⟩) 0 cap := hsp 2 (by omega)
  have e5 : val 5 = .slice (some AD) (N - n) (cap - n) := hsp 5 (by omega)
  rw [← HF_.out]
  change wpList _ _ _ [_, _] _ _
  simp only [puts_consT, puts_nilm, vals, List.map_cons, List.map_nil, Nat.zero_add, Nat.reduceAdd, e2, e5, List.setIfInBounds_toArray, List.set_cons_succ, List.set_cons_zero]
  clear hsp hdis HF_ hsz_ hB hW_5 e2 e5 ev0 ev1 ev2
  obtain ⟨W1, hW1⟩ : ∃ W1, W1 = wx.setRow g (vs.drop n ++ cur.toList.drop (N - n)).toArray := ⟨_, rfl⟩
  have hw := HW.out wx hBo
  rw [← hW1] at hw
  have hlen : (vs.drop n).length = N - n := by rw [List.length_drop, HV.out]
  have hrow := setRow_heap wx g cur (vs.drop n ++ cur.toList.drop (N - n)).toArray 33 (0, 0) (HG.out wx hBo)
  rw [← hW1] at hrow
  have hcl : ∀ ty, (Builtin.clear_ #[28] ty #[.slice (some ⟨g, N - n, none⟩) n (cap - (N - n))]).run Try.prog W1 = .ok (.tuple #[]) (W1.setCells g (N - n) (List.replicate n (.slice none 0 0))) := fun ty => by
   have hsz : (vs.drop n ++ cur.toList.drop (N - n)).toArray.size = cap := by
    have h1 := HC.out
    have h2 : (cur.toList.drop (N - n)).length = cap - (N - n) := by rw [List.length_drop]; simp; omega
    rw [List.size_toArray, List.length_append, hlen, h2]
    omega
   refine Lib.run_clear_slice W1 28 33 ty (.slice none 0 0) Try.underlying28 (fun _ => by kernel_rfl) rfl rfl g (N - n) _ _ (by omega) (fun t ht => ?_) (fun t ht => ?_)
   ·rw [cell_of_row W1 g (N - n + t) _ _ _ hrow, Array.getElem?_eq_getElem (by rw [hsz]; omega)]
    rfl
   ·simp [World.frozen?, hrow]
  have HW1 := Lib.hid hW1; have HWO := Lib.hid hw; have HX := Lib.hid hBo
  clear hW1 hw hrow hlen hBo
  have hnn : N - (N - n) = n := by omega
  go_wp2_with (at_builtin; refine wpList_plain rfl (fun K hK => ?_); refine del_app (g := g) (cap := cap) (vs := vs) (N := N) rfl rfl rfl (HG.out wx HX.out) (hsrc.out wx HX.out) H1.out HV.out HC.out hn hN HW1.out ?_)
  go_ret
  exact ⟨_, rfl, HWO.out.1, rfl, by simpa [Value.ownBlock] using HWO.out.2⟩
end Go.Proofs.Ytgdibcgphjmofaa
