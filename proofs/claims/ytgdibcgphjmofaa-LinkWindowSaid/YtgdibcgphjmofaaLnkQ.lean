/-
 THE WALK of Out.
-/
import Derived.Test.YtgdibcgphjmofaaLnkP
namespace Go.Proofs.Ytgdibcgphjmofaa
set_option maxHeartbeats 1000000
open Go.RowKit
open Go.Maps
set_option linter.unusedVariables false
/-- Sealed bytes. -/
def K.sealed (key : Int) (l : List UInt8) : List UInt8 := l ++ K.seal8 (K.hash key l)
theorem K.pk_sum (p q : Int) (l : List UInt8) : (W.encI [p, q]).length + (W.encB l).length ≤ 36 + l.length := by
 have h1 := W.enc_le p; have h2 := W.enc_le q; have h3 := W.enc_le (([p, q].length : Nat) : Int); have h4 := W.enc_le (l.length : Int)
 simp only [W.encI, W.encB, List.length_append, List.flatMap_cons, List.flatMap_nil, List.length_nil]
 omega
theorem K.pk_len (p q : Int) (l : List UInt8) (h : l.length ≤ 65536) : (K.pk p q l).length ≤ 900000000000 := by
 have := K.pk_sum p q l
 unfold K.pk
 rw [List.length_append]
 omega
/-- What holds of an end's state. -/
structure K.ok (S : K.E) : Prop where
 w1 : 1 ≤ S.win
 w2 : S.win ≤ 16
 a1 : 0 ≤ S.acked
 a2 : S.acked ≤ 1000000000
 d1 : 0 ≤ S.del
 d2 : S.del ≤ 1000000000
 f1 : 0 ≤ S.forged
 f2 : S.forged ≤ 1000000000
 n : S.wait.length ≤ 1000
 l : ∀ x ∈ S.wait, x.length ≤ 65536
 c : S.cnt ≤ 900000000
 k : 0 ≤ S.key ∧ S.key < 18446744073709551616
/-- The first packets that Out makes; all. -/
def K.outF (S : K.E) (i : Nat) : List UInt8 := K.sealed S.key (K.pk (S.acked + (i : Int) + 1) S.del (S.wait.getD i []))
def K.outN (S : K.E) : Nat := min S.wait.length S.win.toNat
def K.outs (S : K.E) (k : Nat) : List (List UInt8) := (List.range k).map (K.outF S)
theorem K.outs_succ (S : K.E) (k : Nat) : K.outs S (k + 1) = K.outs S k ++ [K.outF S k] := by simp [K.outs, List.range_succ]
def K.out (S : K.E) : List (List UInt8) := if K.outN S = 0 ∧ S.owing = true then [K.sealed S.key (K.pk 0 S.del [])] else K.outs S (K.outN S)
/-- A row of messages of the call's own. -/
def RowV (B : Nat) (w : World) (v : Value) (ls : List (List UInt8)) : Prop := ∃ vs, w.ownsRow B 33 1 v ls.length vs ∧ Vs w vs ls
/-- What Out returns. -/
def ROut (ls : List (List UInt8)) (b : Nat) (own : List Nat) (S : K.E) (w : World) (e : Ending) (w' : World) : Prop := ∃ v, e = .returned v ∧ RowV w.heap.size w' v ls ∧ EndAt w' b own S ∧ TT own w w'
def K.cells (S : K.E) (rv : Value) (bm : Nat) : List Value := [.int .i64 S.win, .int .u64 S.key, rv, .int .i64 S.acked, .int .i64 S.del, .map (some bm), .bool S.owing, .int .i64 S.forged]
/-- A store into an end's box, but for its row and its map. -/
theorem EndAt.set_ {w : World} {b : Nat} {own : List Nat} {S : K.E} (h : EndAt w b own S) (i : Nat) (x : Value) (S' : K.E) (hc : ∀ rv bm, (K.cells S rv bm).set i x = K.cells S' rv bm) (h1 : S'.wait = S.wait) (h2 : S'.held = S.held) (h3 : S'.cnt = S.cnt) :
  EndAt (w.setCell ⟨b, i, none⟩ x) b own S' ∧ TT own w (w.setCell ⟨b, i, none⟩ x) := by
 obtain ⟨rv, vs, bm, D, hx, hown, hvs, hmap, hheld, rfl⟩ := h
 obtain ⟨hne, hnr⟩ := end_ne hx hown hmap
 have hkb : KB w (w.setCell ⟨b, i, none⟩ x) := (KB.refl w).set_ hx (by decide) _
 refine ⟨⟨rv, vs, bm, D, ?_, ?_, ?_, ?_, ?_, rfl⟩, (Tc.refl _ w).set_ (.inl (by simp)) _, hkb⟩
 ·have h4 := hx.set_ i x
  have h5 := hc rv bm
  unfold K.cells at h5
  rw [h5] at h4
  exact h4
 ·rw [h1]
  exact row_set hown (fun k hk => (hnr k hk).1.symm) _
 ·rw [h1]
  exact hvs.kb hkb
 ·rw [h3]
  exact map_set hmap (fun e => hne e.symm) _
 ·rw [h2]
  exact hheld.kb hkb
theorem RowV.set_ {B : Nat} {w : World} {v : Value} {ls : List (List UInt8)} (h : RowV B w v ls) {b i : Nat} {T : Nat} {cs : List Value} (hb : b < B) (hx : Bx w b T cs) (hT : T ≠ 5) (x : Value) : RowV B (w.setCell ⟨b, i, none⟩ x) v ls := by
 obtain ⟨vs, h1, h2⟩ := h
 exact ⟨vs, row_set h1 (fun k hk => by have := (h1.lt k hk).1; show k ≠ b; omega) _, h2.kb ((KB.refl w).set_ hx hT _)⟩
theorem out_end {b : Nat} {own : List Nat} {S : K.E} {w wx : World} {v : Value} {ls : List (List UInt8)} (h : EndAt w b own S) (hb : Below w.heap.size w wx) (hr : RowV w.heap.size wx v ls) : ROut ls b own { S with owing := false } w (.returned v) (wx.setCell ⟨b, 6, none⟩ (.bool false)) := by
 have h0 := h.below hb
 obtain ⟨h1, t1⟩ := h0.set_ 6 (.bool false) { S with owing := false } (fun _ _ => rfl) rfl rfl rfl
 have hbl : b < w.heap.size := by
  obtain ⟨rv, vs, bm, D, hx, _⟩ := h
  exact hx.lt
 obtain ⟨rv, vs, bm, D, hx, _⟩ := h0
 exact ⟨v, rfl, hr.set_ hbl hx (by decide) _, h1, (TT.rel own).trans ⟨Tc.of hb, KB.of hb⟩ t1⟩
theorem K.out_none {S : K.E} {N : Nat} (hN : N = S.wait.length) (h0 : 0 = min N S.win.toNat) (ho : S.owing = true) : K.out S = [K.sealed S.key (K.pk 0 S.del [])] := by
 unfold K.out K.outN
 rw [← hN, ← h0, if_pos ⟨rfl, ho⟩]
theorem K.out_some {S : K.E} {N k : Nat} (hN : N = S.wait.length) (h0 : k = min N S.win.toNat) (ho : k ≠ 0 ∨ S.owing = false) : K.out S = K.outs S k := by
 unfold K.out K.outN
 rw [← hN, ← h0, if_neg]
 rintro ⟨h1, h2⟩
 rcases ho with h | h
 ·exact h h1
 ·rw [h] at h2; cases h2
theorem RowV.of {B : Nat} {w : World} {v : Value} {k : Nat} {us : List Value} {ls : List (List UInt8)} (h : w.ownsRow B 33 1 v k us) (hv : Vs w us ls) : RowV B w v ls := by
 have h1 := h.1
 have h2 := hv.1
 have h3 : k = ls.length := by omega
 subst h3
 exact ⟨us, h, hv⟩
set_option maxRecDepth 100000 in
theorem out_any (b : Nat) (own : List Nat) (S : K.E) (w : World) (h : EndAt w b own S) (ok : K.ok S) :
  Calls Try.prog 13 #[.pointer (some ⟨b, 0, none⟩)] w (ROut (K.out S) b own { S with owing := false } w) := by
 have hok := ok
 obtain ⟨w1, w2, a1, a2, d1, d2, f1, f2, hn, hl, hcn, hkk⟩ := ok
 have HOK := Lib.hid hok; clear hok
 obtain ⟨rv, vs, bm, D, hx, hown, hvs, hmap, hheld, rfl⟩ := h
 obtain ⟨N, hN⟩ : ∃ N, N = S.wait.length := ⟨_, rfl⟩
 rw [← hN] at hown hn
 have HWN := Lib.hid hN; clear hN
 obtain ⟨hne, hnr⟩ := end_ne hx hown hmap
 obtain ⟨A0, k0, rfl, hk0, hk1, -⟩ := own_form hown
 have HE := Lib.hid (show EndAt w b (b :: bm :: (Value.slice A0 N k0).ownBlock.toList) S from ⟨_, vs, bm, D, hx, by rw [← HWN.out]; exact hown, hvs, hmap, hheld, rfl⟩)
 obtain ⟨K0, hK0⟩ : ∃ K0, K0 = min N S.win.toNat := ⟨_, rfl⟩
 have hK1 : K0 ≤ N := by omega
 have hK2 : (K0 : Int) ≤ S.win := by omega
 have hK3 : K0 ≤ k0 := by omega
 have hmin : (if S.win < (N : Int) then S.win else (N : Int)) = (K0 : Int) := by split <;> omega
 have HK0 := Lib.hid hK0; clear hK0
 have HO := Lib.hid hown; have HV := Lib.hid hvs
 have HL := Lib.hid hl
 clear hown hvs hmap hheld hnr hl hkk
 unfold maxLen at hk1
 go_enter Try.func13, Try.ntmps13
 go_wp2_with fail
 go_upto_region 2 with fail
 generalize hW_2 : w.drew = W_2
 refine gen_act ?_
 intro F_ hF_
 have ev0 : F_.eval (.tmp 0) = .pointer (some ⟨b, 0, none⟩) := by rw [← hF_]; rfl
 have hsz_ : ∀ d ∈ ([(6, []), (7, [0]), (8, [1]), (9, [2]), (10, []), (11, [4]), (12, [5]), (13, [6]), (14, [7]), (15, []), (16, [9]), (17, [10]), (18, [11]), (19, [8, 12]), (20, [3, 13]), (21, [14]), (22, [])] : List (Nat × List Nat)).map (·.1), d < F_.tmps.size := by rw [← hF_]; simp
 have HF_ := Lib.hid hF_; clear hF_
 refine wp_flow_tab true hW_2 17 [(6, []), (7, [0]), (8, [1]), (9, [2]), (10, []), (11, [4]), (12, [5]), (13, [6]), (14, [7]), (15, []), (16, [9]), (17, [10]), (18, [11]), (19, [8, 12]), (20, [3, 13]), (21, [14]), (22, [])] [SC (.pointer (some ⟨b, 0, none⟩)), SC (.pointer (some ⟨b, 0, none⟩)), SC (.pointer (some ⟨b, 2, none⟩)), SC (.slice A0 N k0), SC (.pointer (some ⟨b, 0, none⟩)), SC (.pointer (some ⟨b, 0, none⟩)), SC (.pointer (some ⟨b, 2, none⟩)), SC (.slice A0 N k0), SC (.int .i64 ((N : Nat) : Int)), SC (.pointer (some ⟨b, 0, none⟩)), SC (.pointer (some ⟨b, 0, none⟩)), SC (.pointer (some ⟨b, 0, none⟩)), SC (.int .i64 S.win), SC (.int .i64 (K0 : Int)), SC (.slice A0 K0 k0), SC (.int .i64 (K0 : Int)), SC (.int .i64 0)] [false, false, false, false, false, false, false, false, false, false, false, false, false, false, false, false, false] (by kernel_rfl) (by kernel_rfl) (by kernel_rfl) (by kernel_rfl) (by kernel_rfl) hsz_ ⟨SC.mono _, SC.mono _, SC.mono _, SC.mono _, SC.mono _, SC.mono _, SC.mono _, SC.mono _, SC.mono _, SC.mono _, SC.mono _, SC.mono _, SC.mono _, SC.mono _, SC.mono _, SC.mono _, SC.mono _, trivial⟩ ?_ ?_
 ·intro kq hkq a wx hB hp hs
  have hBo : Below w.heap.size w wx := dB hW_2 hB
  have hcase : kq = 0 ∨ kq = 1 ∨ kq = 2 ∨ kq = 3 ∨ kq = 4 ∨ kq = 5 ∨ kq = 6 ∨ kq = 7 ∨ kq = 8 ∨ kq = 9 ∨ kq = 10 ∨ kq = 11 ∨ kq = 12 ∨ kq = 13 ∨ kq = 14 ∨ kq = 15 ∨ kq = 16 := by omega
  rcases hcase with rfl | rfl | rfl | rfl | rfl | rfl | rfl | rfl | rfl | rfl | rfl | rfl | rfl | rfl | rfl | rfl | rfl
  ·clear hp
   exact ⟨_, rfl, op_mv (s := SC _) rfl ((hs 0 rfl).trans ev0)⟩
  ·obtain ⟨k2, -⟩ := hp
   exact ⟨_, rfl, op_nil rfl k2⟩
  ·obtain ⟨k2, -⟩ := hp
   exact ⟨_, rfl, fa_link_End_2 rfl k2⟩
  ·obtain ⟨k2, -⟩ := hp
   exact ⟨_, rfl, ld_____uint8 rfl k2 (hx.below hBo) rfl⟩
  ·clear hp
   exact ⟨_, rfl, op_mv (s := SC _) rfl ((hs 0 rfl).trans ev0)⟩
  ·obtain ⟨k2, -⟩ := hp
   exact ⟨_, rfl, op_nil rfl k2⟩
  ·obtain ⟨k2, -⟩ := hp
   exact ⟨_, rfl, fa_link_End_2 rfl k2⟩
  ·obtain ⟨k2, -⟩ := hp
   exact ⟨_, rfl, ld_____uint8 rfl k2 (hx.below hBo) rfl⟩
  ·obtain ⟨k2, -⟩ := hp
   have e0 : a.eval (.tmp 13) = .slice A0 N k0 := k2
   simp [Act.eval] at e0
   exact ⟨_, rfl, Does.val (by simp [execOp, Act.eval, e0, go_sem]) rfl⟩
  ·clear hp
   exact ⟨_, rfl, op_mv (s := SC _) rfl ((hs 0 rfl).trans ev0)⟩
  ·obtain ⟨k2, -⟩ := hp
   exact ⟨_, rfl, op_nil rfl k2⟩
  ·obtain ⟨k2, -⟩ := hp
   exact ⟨_, rfl, fa_link_End_0 rfl k2⟩
  ·obtain ⟨k2, -⟩ := hp
   exact ⟨_, rfl, ld_int rfl k2 (hx.below hBo) rfl⟩
  ·obtain ⟨k2, k4, -⟩ := hp
   have e0 : a.eval (.tmp 14) = .int .i64 ((N : Nat) : Int) := k2
   simp [Act.eval] at e0
   have e1 : a.eval (.tmp 18) = .int .i64 S.win := k4
   simp [Act.eval] at e1
   exact ⟨_, rfl, Does.val (by simp [execOp, Act.eval, e0, e1, go_sem, hmin]) rfl⟩
  ·obtain ⟨k2, k4, -⟩ := hp
   have e0 : a.eval (.tmp 9) = .slice A0 N k0 := k2
   simp [Act.eval] at e0
   have e1 : a.eval (.tmp 19) = .int .i64 (K0 : Int) := k4
   simp [Act.eval] at e1
   exact ⟨_, rfl, Does.val (by simp [execOp, Act.eval, e0, e1, go_sem, hK3]) rfl⟩
  ·obtain ⟨k2, -⟩ := hp
   have e0 : a.eval (.tmp 20) = .slice A0 K0 k0 := k2
   simp [Act.eval] at e0
   exact ⟨_, rfl, Does.val (by simp [execOp, Act.eval, e0, go_sem]) rfl⟩
  ·clear hp
   exact ⟨_, rfl, op_mv (s := SC _) rfl rfl⟩
 ·intro val wx hB hsp hdis
  have hBo : Below w.heap.size w wx := dB hW_2 hB
  have e14 : val 14 = .slice A0 K0 k0 := hsp 14 (by omega)
  have e15 : val 15 = .int .i64 (K0 : Int) := hsp 15 (by omega)
  have e16 : val 16 = .int .i64 0 := hsp 16 (by omega)
  rw [← HF_.out]
  change wpList _ _ _ [] _ _
  simp only [puts_consT, puts_nilm, vals, List.map_cons, List.map_nil, Nat.zero_add, Nat.reduceAdd, e14, e15, e16, List.setIfInBounds_toArray, List.set_cons_succ, List.set_cons_zero]
  clear hsp hdis HF_ hsz_ hB hW_2 e14 e15 e16 ev0
  clear hmin
  obtain ⟨w0, rfl⟩ : ∃ w0 : World, w0 = wx := ⟨_, rfl⟩
  have k8 := Lib.hid hBo; clear hBo
  go_wp2_with fail
  go_loopw [22, 3] (fun s22 s3 wr => ∃ (k : Nat) (us : List Value), k ≤ K0 ∧ s22 = .int .i64 (k : Int) ∧ Hid (wr.ownsRow w.heap.size 33 1 s3 k us) ∧ Hid (Vs wr us (K.outs S k)) ∧ Hid (Below w.heap.size w wr)) (fun s22 _ _ => (K0 - (intOf s22).toNat))
  case atStart => exact ⟨0, [], by omega, rfl, Lib.hid (World.ownsRow_nil _ _ _ _), Lib.hid (Vs.nil _), k8⟩
  case round =>
   clear k8
   obtain ⟨k, us, hk, rfl, HU, HVU, HB⟩ := hrel
   obtain ⟨wo, rfl⟩ : ∃ wo : World, wo = wr := ⟨_, rfl⟩
   obtain ⟨A3, c3, rfl, kd, hm3, -⟩ := own_form HU.out
   unfold maxLen at hm3
   have hge := HB.out.size
   have hxr := hx.below HB.out
   by_cases hlt : k < K0
   ·have hkd := decide_eq_true hlt
    have hkN : k < N := by omega
    obtain ⟨g, k1, hsl, -⟩ := own_pos HO.out (by omega)
    injection hsl with hA _ hk01
    subst hA
    subst hk01
    have hvl : vs.length = N := by have := HO.out.1; omega
    obtain ⟨u5, hu5⟩ : ∃ u, vs[k]? = some u := ⟨vs[k], List.getElem?_eq_getElem (by omega)⟩
    obtain ⟨l5, hl5⟩ : ∃ l, S.wait[k]? = some l := ⟨S.wait[k]'(by have := HWN.out; omega), List.getElem?_eq_getElem _⟩
    have hle5 : l5.length ≤ 65536 := HL.out l5 (List.mem_of_getElem? hl5)
    have hbv5 := ((HV.out).2 k u5 l5 hu5 hl5).below HB.out
    obtain ⟨A5, c5, rfl, k9, hm5, hr5, -⟩ := hbv5
    have f1 : wo.cell? ⟨g, k, none⟩ = some (.slice A5 l5.length c5) := by
     have hg := ((HO.out.lt g rfl)).2
     have h0 := own_cells HO.out k _ hu5
     rw [Addr.add_lit, Nat.zero_add] at h0
     exact (HB.out.cell (p := ⟨g, k, none⟩) hg).trans h0
    have HP := Lib.hid (fun (wx : World) (h : Below wo.heap.size wo wx) => pbytes_any (S.acked + (k : Int) + 1) S.del A5 c5 wo.heap.size l5 wx (hr5.below h (Nat.le_refl _)) h.size (by unfold W.Is64; omega) (by unfold W.Is64; omega) (by omega) (by have := K.pk_sum (S.acked + (k : Int) + 1) S.del l5; omega))
    have HF := Lib.hid (show K.outF S k = K.sealed S.key (K.pk (S.acked + (k : Int) + 1) S.del l5) by unfold K.outF; rw [List.getD_eq_getElem?_getD, hl5]; rfl)
    have hw1 : IntKind.i64.wrap (S.acked + (k : Int)) = S.acked + (k : Int) := by rw [IntKind.wrap_i64]; omega
    have hw2 : IntKind.i64.wrap (S.acked + (k : Int) + 1) = S.acked + (k : Int) + 1 := by rw [IntKind.wrap_i64]; omega
    have hk4 : (k : Int) < (K0 : Int) := by omega
    clear hr5 hl5 hu5
    obtain ⟨n5, hn5⟩ : ∃ n, n = l5.length := ⟨_, rfl⟩
    rw [← hn5] at f1 hle5 k9 HP
    have HN5 := Lib.hid hn5
    have hle6 := Lib.hid (show l5.length ≤ 65536 by omega)
    clear hn5
    go_wp2_with fail
    clear f1
    go_upto_region 5 with fail
    generalize hW_5 : wo.drew = W_5
    refine gen_act ?_
    intro F_ hF_
    have ev0 : F_.eval (.tmp 0) = .pointer (some ⟨b, 0, none⟩) := by rw [← hF_]; rfl
    have ev3 : F_.eval (.tmp 3) = .slice A3 k c3 := by rw [← hF_]; rfl
    have ev4 : F_.eval (.tmp 4) = .int .i64 (k : Int) := by rw [← hF_]; rfl
    have ev5 : F_.eval (.tmp 5) = .slice A5 n5 c5 := by rw [← hF_]; rfl
    have hsz_ : ∀ d ∈ ([(27, []), (28, []), (29, [1]), (30, [2]), (31, [3]), (32, []), (33, [5]), (34, [6]), (35, [7]), (36, []), (37, [8, 9]), (38, [10]), (39, []), (40, [12]), (41, [13]), (42, [14]), (43, []), (44, [11, 15, 16]), (45, [17]), (46, [4, 18]), (47, [19])] : List (Nat × List Nat)).map (·.1), d < F_.tmps.size := by rw [← hF_]; simp
    have HF_ := Lib.hid hF_; clear hF_
    refine wp_flow_tab true hW_5 21 [(27, []), (28, []), (29, [1]), (30, [2]), (31, [3]), (32, []), (33, [5]), (34, [6]), (35, [7]), (36, []), (37, [8, 9]), (38, [10]), (39, []), (40, [12]), (41, [13]), (42, [14]), (43, []), (44, [11, 15, 16]), (45, [17]), (46, [4, 18]), (47, [19])] [SC (.slice A3 k c3), SC (.pointer (some ⟨b, 0, none⟩)), SC (.pointer (some ⟨b, 0, none⟩)), SC (.pointer (some ⟨b, 1, none⟩)), SC (.int .u64 S.key), SC (.pointer (some ⟨b, 0, none⟩)), SC (.pointer (some ⟨b, 0, none⟩)), SC (.pointer (some ⟨b, 3, none⟩)), SC (.int .i64 S.acked), SC (.int .i64 (k : Int)), SC (.int .i64 (S.acked + (k : Int))), SC (.int .i64 (S.acked + (k : Int) + 1)), SC (.pointer (some ⟨b, 0, none⟩)), SC (.pointer (some ⟨b, 0, none⟩)), SC (.pointer (some ⟨b, 4, none⟩)), SC (.int .i64 S.del), SC (.slice A5 n5 c5), SC (.agg #[.int .i64 (S.acked + (k : Int) + 1), .int .i64 S.del, .slice A5 n5 c5]), SY (K.pk (S.acked + (k : Int) + 1) S.del l5), SY (K.sealed S.key (K.pk (S.acked + (k : Int) + 1) S.del l5)), SOne wo.heap.size (K.sealed S.key (K.pk (S.acked + (k : Int) + 1) S.del l5))] [false, false, false, false, false, false, false, false, false, false, false, false, false, false, false, false, false, false, false, false, false] (by kernel_rfl) (by kernel_rfl) (by kernel_rfl) (by kernel_rfl) (by kernel_rfl) hsz_ ⟨SC.mono _, SC.mono _, SC.mono _, SC.mono _, SC.mono _, SC.mono _, SC.mono _, SC.mono _, SC.mono _, SC.mono _, SC.mono _, SC.mono _, SC.mono _, SC.mono _, SC.mono _, SC.mono _, SC.mono _, SC.mono _, SY.mono _, SY.mono _, SOne.mono _ _, trivial⟩ ?_ ?_
    ·intro kq hkq a wx hB hp hs
     have hBo : Below wo.heap.size wo wx := dB hW_5 hB
     have hcase : kq = 0 ∨ kq = 1 ∨ kq = 2 ∨ kq = 3 ∨ kq = 4 ∨ kq = 5 ∨ kq = 6 ∨ kq = 7 ∨ kq = 8 ∨ kq = 9 ∨ kq = 10 ∨ kq = 11 ∨ kq = 12 ∨ kq = 13 ∨ kq = 14 ∨ kq = 15 ∨ kq = 16 ∨ kq = 17 ∨ kq = 18 ∨ kq = 19 ∨ kq = 20 := by omega
     rcases hcase with rfl | rfl | rfl | rfl | rfl | rfl | rfl | rfl | rfl | rfl | rfl | rfl | rfl | rfl | rfl | rfl | rfl | rfl | rfl | rfl | rfl
     ·clear hp
      exact ⟨_, rfl, op_mv (s := SC _) rfl ((hs 3 rfl).trans ev3)⟩
     ·clear hp
      exact ⟨_, rfl, op_mv (s := SC _) rfl ((hs 0 rfl).trans ev0)⟩
     ·obtain ⟨k2, -⟩ := hp
      exact ⟨_, rfl, op_nil rfl k2⟩
     ·obtain ⟨k2, -⟩ := hp
      exact ⟨_, rfl, fa_link_End_1 rfl k2⟩
     ·obtain ⟨k2, -⟩ := hp
      exact ⟨_, rfl, ld_uint64 rfl k2 (hxr.below hBo) rfl⟩
     ·clear hp
      exact ⟨_, rfl, op_mv (s := SC _) rfl ((hs 0 rfl).trans ev0)⟩
     ·obtain ⟨k2, -⟩ := hp
      exact ⟨_, rfl, op_nil rfl k2⟩
     ·obtain ⟨k2, -⟩ := hp
      exact ⟨_, rfl, fa_link_End_3 rfl k2⟩
     ·obtain ⟨k2, -⟩ := hp
      exact ⟨_, rfl, ld_int rfl k2 (hxr.below hBo) rfl⟩
     ·clear hp
      exact ⟨_, rfl, op_mv (s := SC _) rfl ((hs 4 rfl).trans ev4)⟩
     ·obtain ⟨k2, k4, -⟩ := hp
      have e0 : a.eval (.tmp 35) = .int .i64 S.acked := k2
      simp [Act.eval] at e0
      have e1 : a.eval (.tmp 36) = .int .i64 (k : Int) := k4
      simp [Act.eval] at e1
      exact ⟨_, rfl, Does.val (by simp [execOp, Act.eval, e0, e1, go_sem, hw1]) rfl⟩
     ·obtain ⟨k2, -⟩ := hp
      have e0 : a.eval (.tmp 37) = .int .i64 (S.acked + (k : Int)) := k2
      simp [Act.eval] at e0
      exact ⟨_, rfl, Does.val (by simp [execOp, Act.eval, e0, go_sem, hw2]) rfl⟩
     ·clear hp
      exact ⟨_, rfl, op_mv (s := SC _) rfl ((hs 0 rfl).trans ev0)⟩
     ·obtain ⟨k2, -⟩ := hp
      exact ⟨_, rfl, op_nil rfl k2⟩
     ·obtain ⟨k2, -⟩ := hp
      exact ⟨_, rfl, fa_link_End_4 rfl k2⟩
     ·obtain ⟨k2, -⟩ := hp
      exact ⟨_, rfl, ld_int rfl k2 (hxr.below hBo) rfl⟩
     ·clear hp
      exact ⟨_, rfl, op_mv (s := SC _) rfl ((hs 5 rfl).trans ev5)⟩
     ·obtain ⟨k2, k4, ka, -⟩ := hp
      have e0 : a.eval (.tmp 38) = .int .i64 (S.acked + (k : Int) + 1) := k2
      simp [Act.eval] at e0
      have e1 : a.eval (.tmp 42) = .int .i64 S.del := k4
      simp [Act.eval] at e1
      have e2 : a.eval (.tmp 43) = .slice A5 n5 c5 := ka
      simp [Act.eval] at e2
      exact ⟨_, rfl, Does.val (by simp [execOp, Act.eval, e0, e1, e2, go_sem]) rfl⟩
     ·obtain ⟨k2, -⟩ := hp
      exact ⟨_, rfl, Does.ry (f := 33) (call1 rfl (fun _ => by simp [go_sem]) k2) (HP.out wx hBo)⟩
     ·obtain ⟨k2, k4, -⟩ := hp
      obtain ⟨A9, c9, e9, k6, hm9, hr9, -⟩ := k4
      exact ⟨_, rfl, Does.ry (f := 24) (call2 rfl (fun _ => by simp [go_sem]) k2 e9) ((lseal_any S.key A9 c9 wx.heap.size (K.pk (S.acked + (k : Int) + 1) S.del l5) wx hr9 (Nat.le_refl _) k6 hm9 (K.pk_len _ _ _ hle6.out)).mono fun _ _ h => h.bv)⟩
     ·obtain ⟨k2, -⟩ := hp
      exact ⟨_, rfl, op_one rfl k2 hBo.size⟩
    ·intro val wx hB hsp hdis
     have hBo : Below wo.heap.size wo wx := dB hW_5 hB
     have e0 : val 0 = .slice A3 k c3 := hsp 0 (by omega)
     obtain ⟨u20, e20⟩ : ∃ v, val 20 = v := ⟨_, rfl⟩
     have h20 := hsp 20 (by omega)
     rw [e20] at h20
     change (SOne wo.heap.size (K.sealed S.key (K.pk (S.acked + (k : Int) + 1) S.del l5))) _ u20 at h20
     rw [← HF_.out]
     change wpList _ _ _ [_, _] _ _
     simp only [puts_consT, puts_nilm, vals, List.map_cons, List.map_nil, Nat.zero_add, Nat.reduceAdd, e0, e20, List.setIfInBounds_toArray, List.set_cons_succ, List.set_cons_zero]
     clear hsp hdis HF_ hsz_ hB hW_5 e0 e20 ev0 ev3 ev4 ev5
     obtain ⟨gr, u6, rfl, hgr, hbr, hv6⟩ := h20
     have hou := own_below HU.out hBo
     have hvu := HVU.out.kb (.of hBo)
     have hsz := hBo.size
     have k7 := Lib.hid (Blw HB.out hBo)
     have HOU := Lib.hid hou; have HVU2 := Lib.hid hvu; have HBR := Lib.hid hbr; have HV6 := Lib.hid hv6
     have hbase : w.heap.size ≤ wx.heap.size := by omega
     clear hBo hou hvu hbr hv6 hxr
     go_wp2_with (refine wpList_app rfl (.tmp 27) (.tmp 47) rfl rfl rfl hbase HOU.out HVU2.out HBR.out HV6.out (by omega) ?_)
     intro v7 w7 ho7 hg7 hk7 hv7
     have k5 := Lib.hid (k7.out.grown hg7 hbase (fun k hk => (HOU.out.lt k hk).1))
     have HO7 := Lib.hid ho7; have HV7 := Lib.hid hv7
     clear ho7 hg7 hk7 hv7
     go_wp2
     refine ⟨⟨k + 1, _, by omega, by go_num, HO7, Lib.hid ?_, k5⟩, by simp [intOf]; omega⟩
     rw [K.outs_succ, HF.out]
     exact HV7.out
   ·have hkK : k = K0 := by omega
    subst hkK
    obtain ⟨c0, c1, c2, c3', c4, c5, c6, c7, z, l0⟩ := hxr.f8
    by_cases hz : k = 0
    ·subst hz
     by_cases how : S.owing = true
     ·rw [how] at c6
      have HOW := Lib.hid how; clear how
      go_wp2_with fail
      have HP := Lib.hid (fun (wx : World) => pbytes_any 0 S.del none 0 0 [] wx (Rd.nil _ _ _) (Nat.zero_le _) (by unfold W.Is64; omega) (by unfold W.Is64; omega) (by simp) (by have := K.pk_sum 0 S.del []; simp only [List.length_nil] at this; omega))
      clear c0 c1 c2 c3' c4 c5 c6 c7 z
      rw [HOW.out] at hxr
      go_upto_region 8 with fail
      generalize hW_8 : wo.drew = W_8
      refine gen_act ?_
      intro F_ hF_
      have ev0 : F_.eval (.tmp 0) = .pointer (some ⟨b, 0, none⟩) := by rw [← hF_]; rfl
      have ev3 : F_.eval (.tmp 3) = .slice A3 0 c3 := by rw [← hF_]; rfl
      have hsz_ : ∀ d ∈ ([(59, []), (60, []), (61, [1]), (62, [2]), (63, [3]), (64, []), (65, [5]), (66, [6]), (67, [7]), (68, [8]), (69, [9]), (70, [4, 10]), (71, [11])] : List (Nat × List Nat)).map (·.1), d < F_.tmps.size := by rw [← hF_]; simp
      have HF_ := Lib.hid hF_; clear hF_
      refine wp_flow_tab true hW_8 13 [(59, []), (60, []), (61, [1]), (62, [2]), (63, [3]), (64, []), (65, [5]), (66, [6]), (67, [7]), (68, [8]), (69, [9]), (70, [4, 10]), (71, [11])] [SC (.slice A3 0 c3), SC (.pointer (some ⟨b, 0, none⟩)), SC (.pointer (some ⟨b, 0, none⟩)), SC (.pointer (some ⟨b, 1, none⟩)), SC (.int .u64 S.key), SC (.pointer (some ⟨b, 0, none⟩)), SC (.pointer (some ⟨b, 0, none⟩)), SC (.pointer (some ⟨b, 4, none⟩)), SC (.int .i64 S.del), SC (.agg #[.int .i64 0, .int .i64 S.del, .slice none 0 0]), SY (K.pk 0 S.del []), SY (K.sealed S.key (K.pk 0 S.del [])), SOne wo.heap.size (K.sealed S.key (K.pk 0 S.del []))] [false, false, false, false, false, false, false, false, false, false, false, false, false] (by kernel_rfl) (by kernel_rfl) (by kernel_rfl) (by kernel_rfl) (by kernel_rfl) hsz_ ⟨SC.mono _, SC.mono _, SC.mono _, SC.mono _, SC.mono _, SC.mono _, SC.mono _, SC.mono _, SC.mono _, SC.mono _, SY.mono _, SY.mono _, SOne.mono _ _, trivial⟩ ?_ ?_
      ·intro kq hkq a wx hB hp hs
       have hBo : Below wo.heap.size wo wx := dB hW_8 hB
       have hcase : kq = 0 ∨ kq = 1 ∨ kq = 2 ∨ kq = 3 ∨ kq = 4 ∨ kq = 5 ∨ kq = 6 ∨ kq = 7 ∨ kq = 8 ∨ kq = 9 ∨ kq = 10 ∨ kq = 11 ∨ kq = 12 := by omega
       rcases hcase with rfl | rfl | rfl | rfl | rfl | rfl | rfl | rfl | rfl | rfl | rfl | rfl | rfl
       ·clear hp
        exact ⟨_, rfl, op_mv (s := SC _) rfl ((hs 3 rfl).trans ev3)⟩
       ·clear hp
        exact ⟨_, rfl, op_mv (s := SC _) rfl ((hs 0 rfl).trans ev0)⟩
       ·obtain ⟨k2, -⟩ := hp
        exact ⟨_, rfl, op_nil rfl k2⟩
       ·obtain ⟨k2, -⟩ := hp
        exact ⟨_, rfl, fa_link_End_1 rfl k2⟩
       ·obtain ⟨k2, -⟩ := hp
        exact ⟨_, rfl, ld_uint64 rfl k2 (hxr.below hBo) rfl⟩
       ·clear hp
        exact ⟨_, rfl, op_mv (s := SC _) rfl ((hs 0 rfl).trans ev0)⟩
       ·obtain ⟨k2, -⟩ := hp
        exact ⟨_, rfl, op_nil rfl k2⟩
       ·obtain ⟨k2, -⟩ := hp
        exact ⟨_, rfl, fa_link_End_4 rfl k2⟩
       ·obtain ⟨k2, -⟩ := hp
        exact ⟨_, rfl, ld_int rfl k2 (hxr.below hBo) rfl⟩
       ·obtain ⟨k2, -⟩ := hp
        have e0 : a.eval (.tmp 67) = .int .i64 S.del := k2
        simp [Act.eval] at e0
        exact ⟨_, rfl, Does.val (by simp [execOp, Act.eval, e0, go_sem]) rfl⟩
       ·obtain ⟨k2, -⟩ := hp
        exact ⟨_, rfl, Does.ry (f := 33) (call1 rfl (fun _ => by simp [go_sem]) k2) (HP.out wx)⟩
       ·obtain ⟨k2, k4, -⟩ := hp
        obtain ⟨A9, c9, e9, k6, hm9, hr9, -⟩ := k4
        exact ⟨_, rfl, Does.ry (f := 24) (call2 rfl (fun _ => by simp [go_sem]) k2 e9) ((lseal_any S.key A9 c9 wx.heap.size (K.pk 0 S.del []) wx hr9 (Nat.le_refl _) k6 hm9 (K.pk_len _ _ _ (by simp))).mono fun _ _ h => h.bv)⟩
       ·obtain ⟨k2, -⟩ := hp
        exact ⟨_, rfl, op_one rfl k2 hBo.size⟩
      ·intro val wx hB hsp hdis
       have hBo : Below wo.heap.size wo wx := dB hW_8 hB
       have e0 : val 0 = .slice A3 0 c3 := hsp 0 (by omega)
       obtain ⟨u12, e12⟩ : ∃ v, val 12 = v := ⟨_, rfl⟩
       have h12 := hsp 12 (by omega)
       rw [e12] at h12
       change (SOne wo.heap.size (K.sealed S.key (K.pk 0 S.del []))) _ u12 at h12
       rw [← HF_.out]
       change wpList _ _ _ [_, _] _ _
       simp only [puts_consT, puts_nilm, vals, List.map_cons, List.map_nil, Nat.zero_add, Nat.reduceAdd, e0, e12, List.setIfInBounds_toArray, List.set_cons_succ, List.set_cons_zero]
       clear hsp hdis HF_ hsz_ hB hW_8 e0 e12 ev0 ev3
       obtain ⟨gr, u6, rfl, hgr, hbr, hv6⟩ := h12
       have hou := own_below HU.out hBo
       have hvu := HVU.out.kb (.of hBo)
       have hsz := hBo.size
       have k7 := Lib.hid (Blw HB.out hBo)
       have HOU := Lib.hid hou; have HVU2 := Lib.hid hvu; have HBR := Lib.hid hbr; have HV6 := Lib.hid hv6
       have hbase : w.heap.size ≤ wx.heap.size := by omega
       clear hBo hou hvu hbr hv6 hxr
       go_wp2_with (refine wpList_app rfl (.tmp 59) (.tmp 71) rfl rfl rfl hbase HOU.out HVU2.out HBR.out HV6.out (by omega) ?_)
       intro v7 w7 ho7 hg7 hk7 hv7
       have k5 := Lib.hid (k7.out.grown hg7 hbase (fun k hk => (HOU.out.lt k hk).1))
       have HO7 := Lib.hid ho7; have HV7 := Lib.hid hv7
       have hxr := hx.below k5.out
       obtain ⟨A7, c8, rfl, -⟩ := own_form ho7
       obtain ⟨c0, c1, c2, c3', c4, c5, c6, c7, z, l0⟩ := hxr.f8
       clear ho7 hg7 hk7 hv7
       go_wp2
       go_ret
       rw [K.out_none HWN.out HK0.out HOW.out]
       exact out_end HE.out k5.out (RowV.of HO7.out HV7.out)
     ·have how2 : S.owing = false := by simpa using how
      rw [how2] at c6
      have HOW := Lib.hid how2; clear how how2
      go_wp2
      go_ret
      rw [K.out_some HWN.out HK0.out (.inr HOW.out)]
      exact out_end HE.out HB.out (RowV.of HU.out HVU.out)
    ·have hz2 : ((k : Int) == 0) = false := beq_eq_false_iff_ne.2 (by omega)
     have HZ := Lib.hid hz; clear hz
     go_wp2
     go_ret
     rw [K.out_some HWN.out HK0.out (.inl HZ.out)]
     exact out_end HE.out HB.out (RowV.of HU.out HVU.out)
end Go.Proofs.Ytgdibcgphjmofaa
