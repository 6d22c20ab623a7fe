/-
 THE WALK of In, where the packet is refused.
-/
import Derived.Test.YtgdibcgphjmofaaLnkT
namespace Go.Proofs.Ytgdibcgphjmofaa
set_option maxHeartbeats 2000000
open Go.RowKit
open Go.Maps
set_option linter.unusedVariables false
/-- Behind the acknowledgement; behind the packet. -/
def K.ackd (S : K.E) (q : Int) : K.E := if 0 < q - S.acked then { S with wait := S.wait.drop (q - S.acked).toNat, acked := q } else S
def K.put (S : K.E) (p : Int) (s : List UInt8) : K.E := if S.del < p ∧ S.held p = none then { S with owing := true, held := fun k => if k = p then some s else S.held k, cnt := S.cnt + 1 } else { S with owing := true }
/-- What In does, plainly. -/
def K.into (S : K.E) (p q : Int) (s : List UInt8) : List (List UInt8) × Int × K.E :=
 if S.acked + (S.wait.length : Int) < q ∨ S.del + 16 < p then ([], 0, S)
 else if p = 0 then ([], 0, K.ackd S q)
 else ((K.dlv (K.put (K.ackd S q) p s).cnt (K.put (K.ackd S q) p s)).1, 0, (K.dlv (K.put (K.ackd S q) p s).cnt (K.put (K.ackd S q) p s)).2)
def K.inn (S : K.E) (l : List UInt8) : List (List UInt8) × Int × K.E :=
 if (K.unseal S.key l).2 ≠ 0 then ([], (K.unseal S.key l).2, if (K.unseal S.key l).2 = 9 then { S with forged := S.forged + 1 } else S)
 else match K.read (K.unseal S.key l).1 with
  | none => ([], 2, S)
  | some (p, q, s) => K.into S p q s
/-- What In returns. -/
def RIn (r : List (List UInt8) × Int × K.E) (b : Nat) (own : List Nat) (w : World) (e : Ending) (w' : World) : Prop := ∃ v, e = .returned (.tuple #[v, .int .i64 r.2.1]) ∧ RowV w.heap.size w' v r.1 ∧ EndAt w' b own r.2.2 ∧ TT own w w'
theorem RowV.nil (B : Nat) (w : World) : RowV B w (.slice none 0 0) [] := ⟨[], World.ownsRow_nil _ _ _ _, Vs.nil w⟩
theorem EndTo.same {b : Nat} {own : List Nat} {S : K.E} {w w' : World} (h : EndAt w b own S) (hb : Below w.heap.size w w') : EndAt w' b own S ∧ TT own w w' := ⟨h.below hb, ⟨Tc.of hb, KB.of hb⟩⟩
theorem unseal_err (key : Int) (l : List UInt8) : (K.unseal key l).2 = 0 ∨ (K.unseal key l).2 = 2 ∨ (K.unseal key l).2 = 9 := by
 unfold K.unseal
 split
 ·exact .inr (.inl rfl)
 ·split
  ·exact .inr (.inr rfl)
  ·exact .inl rfl
set_option maxRecDepth 100000 in
theorem in_2 (b : Nat) (own : List Nat) (S : K.E) (x : Value) (l : List UInt8) (w : World) (h : EndAt w b own S) (hbv : BV w x l) (hl : l.length ≤ 1000000000000) (hE : (K.unseal S.key l).2 = 2) :
  Calls Try.prog 19 #[.pointer (some ⟨b, 0, none⟩), x] w (RIn ([], 2, S) b own w) := by
 obtain ⟨A, c, rfl, hc, hm, hr, -⟩ := hbv
 have hop := open_any S.key A c w.heap.size l w hr (Nat.le_refl _) hc hm (by omega)
 have HE := Lib.hid h
 obtain ⟨rv, vs, bm, D, hx, -⟩ := h
 obtain ⟨c0, c1, c2, c3, c4, c5, c6, c7, z, l0⟩ := hx.f8
 obtain ⟨N, hN⟩ : ∃ N, N = l.length := ⟨_, rfl⟩
 rw [← hN] at hop ⊢
 have HOP := Lib.hid hop; have HER := Lib.hid hE
 clear hop hE hN hc hm hr hx hl
 go_enter Try.func19, Try.ntmps19
 go_wp2_with fail
 refine HOP.out.mono ?_
 rintro e w1 ⟨v1, rfl, hown, hb⟩
 rw [HER.out]
 have HB := Lib.hid hb
 clear hown hb c0 c1 c2 c3 c4 c5 c6 c7 z
 go_wp2
 go_ret2
 exact ⟨_, rfl, RowV.nil _ _, EndTo.same HE.out HB.out⟩
set_option maxRecDepth 100000 in
theorem in_9 (b : Nat) (own : List Nat) (S : K.E) (x : Value) (l : List UInt8) (w : World) (h : EndAt w b own S) (hbv : BV w x l) (hl : l.length ≤ 1000000000000) (hf0 : 0 ≤ S.forged) (hf1 : S.forged ≤ 1000000000) (hE : (K.unseal S.key l).2 = 9) :
  Calls Try.prog 19 #[.pointer (some ⟨b, 0, none⟩), x] w (RIn ([], 9, { S with forged := S.forged + 1 }) b own w) := by
 obtain ⟨A, c, rfl, hc, hm, hr, -⟩ := hbv
 have hop := open_any S.key A c w.heap.size l w hr (Nat.le_refl _) hc hm (by omega)
 have HE := Lib.hid h
 obtain ⟨rv, vs, bm, D, hx, -⟩ := h
 obtain ⟨c0, c1, c2, c3, c4, c5, c6, c7, z, l0⟩ := hx.f8
 obtain ⟨N, hN⟩ : ∃ N, N = l.length := ⟨_, rfl⟩
 rw [← hN] at hop ⊢
 have HOP := Lib.hid hop; have HER := Lib.hid hE
 clear hop hE hN hc hm hr hl
 go_enter Try.func19, Try.ntmps19
 go_wp2_with fail
 refine HOP.out.mono ?_
 rintro e w1 ⟨v1, rfl, hown, hb⟩
 rw [HER.out]
 have hx1 := hx.below hb
 have HB := Lib.hid hb
 clear hown hb c0 c1 c2 c3 c4 c5 c6 c7 z hx
 obtain ⟨c0, c1, c2, c3, c4, c5, c6, c7, z, l0⟩ := hx1.f8
 go_wp2
 go_ret2
 obtain ⟨h1, t1⟩ := (HE.out.below HB.out).set_ 7 (.int .i64 (S.forged + 1)) { S with forged := S.forged + 1 } (fun _ _ => rfl) rfl rfl rfl
 exact ⟨_, rfl, RowV.nil _ _, h1, (TT.rel own).trans ⟨Tc.of HB.out, KB.of HB.out⟩ t1⟩
/-- What is known behind the call of read. -/
theorem own_bv {w : World} {base : Nat} {v : Value} {l : List UInt8} (h : w.ownsRow base 5 1 v l.length (W.bc l)) : BV w v l := BV.own h
theorem unseal_len (key : Int) (l : List UInt8) : (K.unseal key l).1.length ≤ l.length := by
 unfold K.unseal
 split
 ·simp
 ·split
  ·simp
  ·simp
attribute [local go_sem] run_store_one in
set_option maxRecDepth 100000 in
theorem in_no (b : Nat) (own : List Nat) (S : K.E) (x : Value) (l : List UInt8) (w : World) (h : EndAt w b own S) (hbv : BV w x l) (hl : l.length ≤ 1000000000000) (hE : (K.unseal S.key l).2 = 0) (hR : K.read (K.unseal S.key l).1 = none) :
  Calls Try.prog 19 #[.pointer (some ⟨b, 0, none⟩), x] w (RIn ([], 2, S) b own w) := by
 obtain ⟨A, c, rfl, hc, hm, hr, -⟩ := hbv
 have hop := open_any S.key A c w.heap.size l w hr (Nat.le_refl _) hc hm (by omega)
 have HE := Lib.hid h
 obtain ⟨rv, vs, bm, D, hx, -⟩ := h
 obtain ⟨c0, c1, c2, c3, c4, c5, c6, c7, z, l0⟩ := hx.f8
 have hul := unseal_len S.key l
 obtain ⟨N, hN⟩ : ∃ N, N = l.length := ⟨_, rfl⟩
 rw [← hN] at hop hul hl ⊢
 have HOP := Lib.hid hop; have HER := Lib.hid hE; have HRD := Lib.hid hR
 clear hop hE hN hc hm hr hx hR
 go_enter Try.func19, Try.ntmps19
 go_wp2_with fail
 refine HOP.out.mono ?_
 rintro e w1 ⟨v1, rfl, hown, hb⟩
 rw [HER.out]
 obtain ⟨A1, c1', e1, h1c, h1m, h1r, -⟩ := own_bv hown
 have hrd := read_any A1 c1' w1.heap.size _ w1 h1r (Nat.le_refl _) h1c h1m (by omega)
 rw [HRD.out, ← e1] at hrd
 have HRR := Lib.hid hrd
 have HB := Lib.hid hb
 obtain rfl := e1
 clear hown hb c0 c1 c2 c3 c4 c5 c6 c7 z h1r hrd
 go_wp2_with fail
 refine HRR.out.mono ?_
 rintro e w2 ⟨u0, u1, u2, rfl, o0, o1, o2, k0⟩
 have k1 := Lib.hid (Blw HB.out k0)
 have hsz := k0.size
 clear k0
 go_wp2
 go_ret2
 exact ⟨_, rfl, RowV.nil _ _, EndTo.same HE.out (k1.out.alloc k1.out.size _)⟩
attribute [local go_sem] run_store_one in
set_option maxRecDepth 100000 in
theorem in_skip1 (b : Nat) (own : List Nat) (S : K.E) (x : Value) (l : List UInt8) (w : World) (h : EndAt w b own S) (ok : K.ok S) (hbv : BV w x l) (hl : l.length ≤ 1000000000000) (hE : (K.unseal S.key l).2 = 0) (p q : Int) (s : List UInt8) (hR : K.read (K.unseal S.key l).1 = some (p, q, s)) (hp0 : 0 ≤ p) (hq0 : 0 ≤ q) (hpm : p ≤ 9223372036854775807) (hqm : q ≤ 9223372036854775807) (hs : s.length ≤ 65536) (hq : S.acked + (S.wait.length : Int) < q) :
  Calls Try.prog 19 #[.pointer (some ⟨b, 0, none⟩), x] w (RIn ([], 0, S) b own w) := by
 obtain ⟨w1_, w2_, a1, a2, d1, d2, f1, f2, hn, hlw, hcn, hkk⟩ := ok
 obtain ⟨A, c, rfl, hc, hm, hr, -⟩ := hbv
 have hop := open_any S.key A c w.heap.size l w hr (Nat.le_refl _) hc hm (by omega)
 have HE := Lib.hid h
 have hlt := h.lt
 obtain ⟨rv, vs, bm, D, hx, hown0, hvs0, hmap0, hheld0, hown_⟩ := h
 have hbw : b < w.heap.size := hx.lt
 obtain ⟨c0, c1, c2, c3, c4, c5, c6, c7, z, l0⟩ := hx.f8
 have hul := unseal_len S.key l
 obtain ⟨N, hN⟩ : ∃ N, N = l.length := ⟨_, rfl⟩
 rw [← hN] at hop hul hl ⊢
 have HOP := Lib.hid hop; have HER := Lib.hid hE; have HRD := Lib.hid hR; have HLT := Lib.hid hlt
 have HO0 := Lib.hid hown0; have HV0 := Lib.hid hvs0; have HM0 := Lib.hid hmap0; have HH0 := Lib.hid hheld0; have HOWN := Lib.hid hown_
 clear hop hE hN hc hm hr hR hlt hlw hkk hown0 hvs0 hmap0 hheld0 hown_
 go_enter Try.func19, Try.ntmps19
 go_wp2_with fail
 refine HOP.out.mono ?_
 rintro e w1 ⟨v1, rfl, hown, hb⟩
 rw [HER.out]
 obtain ⟨A1, c1', e1, h1c, h1m, h1r, -⟩ := own_bv hown
 have hrd := read_any A1 c1' w1.heap.size _ w1 h1r (Nat.le_refl _) h1c h1m (by omega)
 rw [HRD.out, ← e1] at hrd
 have HRR := Lib.hid hrd
 have HB := Lib.hid hb
 obtain rfl := e1
 clear hown hb c0 c1 c2 c3 c4 c5 c6 c7 z h1r hrd
 go_wp2_with fail
 refine HRR.out.mono ?_
 rintro e w2 ⟨v2, rfl, hbv2, k5⟩
 have k3 := Lib.hid (Blw HB.out k5)
 have HBV2 := Lib.hid hbv2
 obtain ⟨A2, c2, rfl, -⟩ := hbv2
 obtain ⟨n2, hn2⟩ : ∃ n, n = s.length := ⟨_, rfl⟩
 rw [← hn2] at HBV2 hs ⊢
 have HN2 := Lib.hid hn2
 clear k5 hn2
 go_wp2_with fail
 generalize hW3 : w2.alloc (.cells _ 68) = w3
 obtain ⟨hx8, k4⟩ := box1 hW3
 have k6 := Lib.hid (Blw k3.out k4)
 have HBV3 := Lib.hid (HBV2.out.below k4)
 have hx3 := hx.below k6.out
 obtain ⟨g8, hg8⟩ : ∃ g, g = w2.heap.size := ⟨_, rfl⟩
 rw [← hg8] at hx8 ⊢
 have hgw : w.heap.size ≤ g8 := by rw [hg8]; exact k3.out.size
 obtain ⟨N0, hN0⟩ : ∃ N, N = S.wait.length := ⟨_, rfl⟩
 have HWN := Lib.hid hN0
 rw [← hN0] at hn
 obtain ⟨A0, k0, e0, -⟩ := own_form HO0.out
 rw [← hN0] at e0
 subst e0
 clear hW3 k4 hg8 hN0 k3 HBV2 hx
 have hw1 : IntKind.i64.wrap (S.acked + (N0 : Int)) = S.acked + (N0 : Int) := by rw [IntKind.wrap_i64]; omega
 have hw2 : IntKind.i64.wrap (S.del + 16) = S.del + 16 := by rw [IntKind.wrap_i64]; omega
 have hdq := decide_eq_true (show S.acked + (N0 : Int) < q by have := HWN.out; omega)
 go_upto_region 9 with fail
 generalize hW_9 : w3.drew = W_9
 refine gen_act ?_
 intro F_ hF_
 have ev0 : F_.eval (.tmp 0) = .pointer (some ⟨b, 0, none⟩) := by rw [← hF_]; rfl
 have ev8 : F_.eval (.tmp 8) = .pointer (some ⟨g8, 0, none⟩) := by rw [← hF_]; rfl
 have hsz_ : ∀ d ∈ ([(41, []), (42, [0]), (43, []), (44, [2]), (45, [3]), (46, [4]), (47, []), (48, [6]), (49, [7]), (50, [8]), (51, [9]), (52, [5, 10]), (53, [1, 11]), (54, [12]), (55, [13]), (56, [14, 13]), (57, [13]), (58, [16, 13]), (59, [17, 13]), (60, [18, 13]), (61, [19, 13]), (62, [15, 20, 13]), (63, [13, 21])] : List (Nat × List Nat)).map (·.1), d < F_.tmps.size := by rw [← hF_]; simp
 have HF_ := Lib.hid hF_; clear hF_
 refine wp_flow_tabG true hW_9 23 [(41, []), (42, [0]), (43, []), (44, [2]), (45, [3]), (46, [4]), (47, []), (48, [6]), (49, [7]), (50, [8]), (51, [9]), (52, [5, 10]), (53, [1, 11]), (54, [12]), (55, [13]), (56, [14, 13]), (57, [13]), (58, [16, 13]), (59, [17, 13]), (60, [18, 13]), (61, [19, 13]), (62, [15, 20, 13]), (63, [13, 21])] [SC (.pointer (some ⟨g8, 1, none⟩)), SC (.int .i64 q), SC (.pointer (some ⟨b, 0, none⟩)), SC (.pointer (some ⟨b, 0, none⟩)), SC (.pointer (some ⟨b, 3, none⟩)), SC (.int .i64 S.acked), SC (.pointer (some ⟨b, 0, none⟩)), SC (.pointer (some ⟨b, 0, none⟩)), SC (.pointer (some ⟨b, 2, none⟩)), SC (.slice A0 N0 k0), SC (.int .i64 ((N0 : Nat) : Int)), SC (.int .i64 (S.acked + (N0 : Int))), SC (.bool true), SC (.bool true), SC undef, SC undef, SC undef, SC undef, SC undef, SC undef, SC undef, SC undef, SC (.bool true)] [false, false, false, false, false, false, false, false, false, false, false, false, false, false, false, false, false, false, false, false, false, false, false] (by kernel_rfl) (by kernel_rfl) (by kernel_rfl) (by kernel_rfl) (by kernel_rfl) hsz_ ⟨SC.mono _, SC.mono _, SC.mono _, SC.mono _, SC.mono _, SC.mono _, SC.mono _, SC.mono _, SC.mono _, SC.mono _, SC.mono _, SC.mono _, SC.mono _, SC.mono _, SC.mono _, SC.mono _, SC.mono _, SC.mono _, SC.mono _, SC.mono _, SC.mono _, SC.mono _, SC.mono _, trivial⟩ ?_ ?_
 ·intro kq hkq a wx hB hp hs
  have hBo : Below w3.heap.size w3 wx := dB hW_9 hB
  have hcase : kq = 0 ∨ kq = 1 ∨ kq = 2 ∨ kq = 3 ∨ kq = 4 ∨ kq = 5 ∨ kq = 6 ∨ kq = 7 ∨ kq = 8 ∨ kq = 9 ∨ kq = 10 ∨ kq = 11 ∨ kq = 12 ∨ kq = 13 ∨ kq = 14 ∨ kq = 15 ∨ kq = 16 ∨ kq = 17 ∨ kq = 18 ∨ kq = 19 ∨ kq = 20 ∨ kq = 21 ∨ kq = 22 := by omega
  rcases hcase with rfl | rfl | rfl | rfl | rfl | rfl | rfl | rfl | rfl | rfl | rfl | rfl | rfl | rfl | rfl | rfl | rfl | rfl | rfl | rfl | rfl | rfl | rfl
  ·clear hp
   exact ⟨_, rfl, .inl ⟨wanted_none rfl, fa_link_packet_1 rfl ((hs 8 rfl).trans ev8)⟩⟩
  ·obtain ⟨k1, -⟩ := hp
   exact ⟨_, rfl, .inl ⟨wanted_none rfl, ld_int rfl k1 (hx8.below hBo) rfl⟩⟩
  ·clear hp
   exact ⟨_, rfl, .inl ⟨wanted_none rfl, op_mv (s := SC _) rfl ((hs 0 rfl).trans ev0)⟩⟩
  ·obtain ⟨k1, -⟩ := hp
   exact ⟨_, rfl, .inl ⟨wanted_none rfl, op_nil rfl k1⟩⟩
  ·obtain ⟨k1, -⟩ := hp
   exact ⟨_, rfl, .inl ⟨wanted_none rfl, fa_link_End_3 rfl k1⟩⟩
  ·obtain ⟨k1, -⟩ := hp
   exact ⟨_, rfl, .inl ⟨wanted_none rfl, ld_int rfl k1 (hx3.below hBo) rfl⟩⟩
  ·clear hp
   exact ⟨_, rfl, .inl ⟨wanted_none rfl, op_mv (s := SC _) rfl ((hs 0 rfl).trans ev0)⟩⟩
  ·obtain ⟨k1, -⟩ := hp
   exact ⟨_, rfl, .inl ⟨wanted_none rfl, op_nil rfl k1⟩⟩
  ·obtain ⟨k1, -⟩ := hp
   exact ⟨_, rfl, .inl ⟨wanted_none rfl, fa_link_End_2 rfl k1⟩⟩
  ·obtain ⟨k1, -⟩ := hp
   exact ⟨_, rfl, .inl ⟨wanted_none rfl, ld_____uint8 rfl k1 (hx3.below hBo) rfl⟩⟩
  ·obtain ⟨k1, -⟩ := hp
   have e0 : a.eval (.tmp 50) = .slice A0 N0 k0 := k1
   simp [Act.eval] at e0
   exact ⟨_, rfl, .inl ⟨wanted_none rfl, Does.val (by simp [execOp, Act.eval, e0, go_sem]) rfl⟩⟩
  ·obtain ⟨k1, k2, -⟩ := hp
   have e0 : a.eval (.tmp 46) = .int .i64 S.acked := k1
   simp [Act.eval] at e0
   have e1 : a.eval (.tmp 51) = .int .i64 ((N0 : Nat) : Int) := k2
   simp [Act.eval] at e1
   exact ⟨_, rfl, .inl ⟨wanted_none rfl, Does.val (by simp [execOp, Act.eval, e0, e1, go_sem, hw1]) rfl⟩⟩
  ·obtain ⟨k1, k2, -⟩ := hp
   have e0 : a.eval (.tmp 42) = .int .i64 q := k1
   simp [Act.eval] at e0
   have e1 : a.eval (.tmp 52) = .int .i64 (S.acked + (N0 : Int)) := k2
   simp [Act.eval] at e1
   exact ⟨_, rfl, .inl ⟨wanted_none rfl, Does.val (by simp [execOp, Act.eval, e0, e1, go_sem, hdq]) rfl⟩⟩
  ·obtain ⟨k1, -⟩ := hp
   exact ⟨_, rfl, .inl ⟨wanted_none rfl, op_mv (s := SC _) rfl k1⟩⟩
  ·obtain ⟨k1, -⟩ := hp
   have hgd : a.eval (.tmp 54) = .bool true := k1
   exact ⟨_, rfl, .inr ⟨(wanted_of rfl rfl hgd).trans rfl, rfl, rfl⟩⟩
  ·obtain ⟨k1, k2, -⟩ := hp
   have hgd : a.eval (.tmp 54) = .bool true := k2
   exact ⟨_, rfl, .inr ⟨(wanted_of rfl rfl hgd).trans rfl, rfl, rfl⟩⟩
  ·obtain ⟨k1, -⟩ := hp
   have hgd : a.eval (.tmp 54) = .bool true := k1
   exact ⟨_, rfl, .inr ⟨(wanted_of rfl rfl hgd).trans rfl, rfl, rfl⟩⟩
  ·obtain ⟨k1, k2, -⟩ := hp
   have hgd : a.eval (.tmp 54) = .bool true := k2
   exact ⟨_, rfl, .inr ⟨(wanted_of rfl rfl hgd).trans rfl, rfl, rfl⟩⟩
  ·obtain ⟨k1, k2, -⟩ := hp
   have hgd : a.eval (.tmp 54) = .bool true := k2
   exact ⟨_, rfl, .inr ⟨(wanted_of rfl rfl hgd).trans rfl, rfl, rfl⟩⟩
  ·obtain ⟨k1, k2, -⟩ := hp
   have hgd : a.eval (.tmp 54) = .bool true := k2
   exact ⟨_, rfl, .inr ⟨(wanted_of rfl rfl hgd).trans rfl, rfl, rfl⟩⟩
  ·obtain ⟨k1, k2, -⟩ := hp
   have hgd : a.eval (.tmp 54) = .bool true := k2
   exact ⟨_, rfl, .inr ⟨(wanted_of rfl rfl hgd).trans rfl, rfl, rfl⟩⟩
  ·obtain ⟨k1, k2, k7, -⟩ := hp
   have hgd : a.eval (.tmp 54) = .bool true := k7
   exact ⟨_, rfl, .inr ⟨(wanted_of rfl rfl hgd).trans rfl, rfl, rfl⟩⟩
  ·obtain ⟨k1, k2, -⟩ := hp
   have e0 : a.eval (.tmp 54) = .bool true := k1
   simp [Act.eval] at e0
   have e1 : a.eval (.tmp 62) = undef := k2
   simp [Act.eval] at e1
   exact ⟨_, rfl, .inl ⟨wanted_none rfl, Does.val (by simp [execOp, Act.eval, e0, e1, go_sem]) rfl⟩⟩
 ·intro val wx hB hsp hdis
  have hBo : Below w3.heap.size w3 wx := dB hW_9 hB
  have e22 : val 22 = .bool true := hsp 22 (by omega)
  rw [← HF_.out]
  change wpList _ _ _ [] _ _
  simp only [puts_consT, puts_nilm, vals, List.map_cons, List.map_nil, Nat.zero_add, Nat.reduceAdd, e22, List.setIfInBounds_toArray, List.set_cons_succ, List.set_cons_zero]
  clear hsp hdis HF_ hsz_ hB hW_9 e22 ev0 ev8
  have k8 := Lib.hid (Blw k6.out hBo)
  clear hBo hq hdq
  go_wp2
  go_ret2
  exact ⟨_, rfl, RowV.nil _ _, EndTo.same HE.out k8.out⟩
attribute [local go_sem] run_store_one in
set_option maxRecDepth 100000 in
theorem in_skip2 (b : Nat) (own : List Nat) (S : K.E) (x : Value) (l : List UInt8) (w : World) (h : EndAt w b own S) (ok : K.ok S) (hbv : BV w x l) (hl : l.length ≤ 1000000000000) (hE : (K.unseal S.key l).2 = 0) (p q : Int) (s : List UInt8) (hR : K.read (K.unseal S.key l).1 = some (p, q, s)) (hp0 : 0 ≤ p) (hq0 : 0 ≤ q) (hpm : p ≤ 9223372036854775807) (hqm : q ≤ 9223372036854775807) (hs : s.length ≤ 65536) (hq : ¬ S.acked + (S.wait.length : Int) < q) (hp : S.del + 16 < p) :
  Calls Try.prog 19 #[.pointer (some ⟨b, 0, none⟩), x] w (RIn ([], 0, S) b own w) := by
 obtain ⟨w1_, w2_, a1, a2, d1, d2, f1, f2, hn, hlw, hcn, hkk⟩ := ok
 obtain ⟨A, c, rfl, hc, hm, hr, -⟩ := hbv
 have hop := open_any S.key A c w.heap.size l w hr (Nat.le_refl _) hc hm (by omega)
 have HE := Lib.hid h
 have hlt := h.lt
 obtain ⟨rv, vs, bm, D, hx, hown0, hvs0, hmap0, hheld0, hown_⟩ := h
 have hbw : b < w.heap.size := hx.lt
 obtain ⟨c0, c1, c2, c3, c4, c5, c6, c7, z, l0⟩ := hx.f8
 have hul := unseal_len S.key l
 obtain ⟨N, hN⟩ : ∃ N, N = l.length := ⟨_, rfl⟩
 rw [← hN] at hop hul hl ⊢
 have HOP := Lib.hid hop; have HER := Lib.hid hE; have HRD := Lib.hid hR; have HLT := Lib.hid hlt
 have HO0 := Lib.hid hown0; have HV0 := Lib.hid hvs0; have HM0 := Lib.hid hmap0; have HH0 := Lib.hid hheld0; have HOWN := Lib.hid hown_
 clear hop hE hN hc hm hr hR hlt hlw hkk hown0 hvs0 hmap0 hheld0 hown_
 go_enter Try.func19, Try.ntmps19
 go_wp2_with fail
 refine HOP.out.mono ?_
 rintro e w1 ⟨v1, rfl, hown, hb⟩
 rw [HER.out]
 obtain ⟨A1, c1', e1, h1c, h1m, h1r, -⟩ := own_bv hown
 have hrd := read_any A1 c1' w1.heap.size _ w1 h1r (Nat.le_refl _) h1c h1m (by omega)
 rw [HRD.out, ← e1] at hrd
 have HRR := Lib.hid hrd
 have HB := Lib.hid hb
 obtain rfl := e1
 clear hown hb c0 c1 c2 c3 c4 c5 c6 c7 z h1r hrd
 go_wp2_with fail
 refine HRR.out.mono ?_
 rintro e w2 ⟨v2, rfl, hbv2, k5⟩
 have k3 := Lib.hid (Blw HB.out k5)
 have HBV2 := Lib.hid hbv2
 obtain ⟨A2, c2, rfl, -⟩ := hbv2
 obtain ⟨n2, hn2⟩ : ∃ n, n = s.length := ⟨_, rfl⟩
 rw [← hn2] at HBV2 hs ⊢
 have HN2 := Lib.hid hn2
 clear k5 hn2
 go_wp2_with fail
 generalize hW3 : w2.alloc (.cells _ 68) = w3
 obtain ⟨hx8, k4⟩ := box1 hW3
 have k6 := Lib.hid (Blw k3.out k4)
 have HBV3 := Lib.hid (HBV2.out.below k4)
 have hx3 := hx.below k6.out
 obtain ⟨g8, hg8⟩ : ∃ g, g = w2.heap.size := ⟨_, rfl⟩
 rw [← hg8] at hx8 ⊢
 have hgw : w.heap.size ≤ g8 := by rw [hg8]; exact k3.out.size
 obtain ⟨N0, hN0⟩ : ∃ N, N = S.wait.length := ⟨_, rfl⟩
 have HWN := Lib.hid hN0
 rw [← hN0] at hn
 obtain ⟨A0, k0, e0, -⟩ := own_form HO0.out
 rw [← hN0] at e0
 subst e0
 clear hW3 k4 hg8 hN0 k3 HBV2 hx
 have hw1 : IntKind.i64.wrap (S.acked + (N0 : Int)) = S.acked + (N0 : Int) := by rw [IntKind.wrap_i64]; omega
 have hw2 : IntKind.i64.wrap (S.del + 16) = S.del + 16 := by rw [IntKind.wrap_i64]; omega
 have hdq := decide_eq_false (show ¬ S.acked + (N0 : Int) < q by have := HWN.out; omega)
 have hdp := decide_eq_true (show S.del + 16 < p by omega)
 go_upto_region 9 with fail
 generalize hW_9 : w3.drew = W_9
 refine gen_act ?_
 intro F_ hF_
 have ev0 : F_.eval (.tmp 0) = .pointer (some ⟨b, 0, none⟩) := by rw [← hF_]; rfl
 have ev8 : F_.eval (.tmp 8) = .pointer (some ⟨g8, 0, none⟩) := by rw [← hF_]; rfl
 have hsz_ : ∀ d ∈ ([(41, []), (42, [0]), (43, []), (44, [2]), (45, [3]), (46, [4]), (47, []), (48, [6]), (49, [7]), (50, [8]), (51, [9]), (52, [5, 10]), (53, [1, 11]), (54, [12]), (55, [13]), (56, [14, 13]), (57, [13]), (58, [16, 13]), (59, [17, 13]), (60, [18, 13]), (61, [19, 13]), (62, [15, 20, 13]), (63, [13, 21])] : List (Nat × List Nat)).map (·.1), d < F_.tmps.size := by rw [← hF_]; simp
 have HF_ := Lib.hid hF_; clear hF_
 refine wp_flow_tabG true hW_9 23 [(41, []), (42, [0]), (43, []), (44, [2]), (45, [3]), (46, [4]), (47, []), (48, [6]), (49, [7]), (50, [8]), (51, [9]), (52, [5, 10]), (53, [1, 11]), (54, [12]), (55, [13]), (56, [14, 13]), (57, [13]), (58, [16, 13]), (59, [17, 13]), (60, [18, 13]), (61, [19, 13]), (62, [15, 20, 13]), (63, [13, 21])] [SC (.pointer (some ⟨g8, 1, none⟩)), SC (.int .i64 q), SC (.pointer (some ⟨b, 0, none⟩)), SC (.pointer (some ⟨b, 0, none⟩)), SC (.pointer (some ⟨b, 3, none⟩)), SC (.int .i64 S.acked), SC (.pointer (some ⟨b, 0, none⟩)), SC (.pointer (some ⟨b, 0, none⟩)), SC (.pointer (some ⟨b, 2, none⟩)), SC (.slice A0 N0 k0), SC (.int .i64 ((N0 : Nat) : Int)), SC (.int .i64 (S.acked + (N0 : Int))), SC (.bool false), SC (.bool false), SC (.pointer (some ⟨g8, 0, none⟩)), SC (.int .i64 p), SC (.pointer (some ⟨b, 0, none⟩)), SC (.pointer (some ⟨b, 0, none⟩)), SC (.pointer (some ⟨b, 4, none⟩)), SC (.int .i64 S.del), SC (.int .i64 (S.del + 16)), SC (.bool true), SC (.bool true)] [false, false, false, false, false, false, false, false, false, false, false, false, false, false, false, false, false, false, false, false, false, false, false] (by kernel_rfl) (by kernel_rfl) (by kernel_rfl) (by kernel_rfl) (by kernel_rfl) hsz_ ⟨SC.mono _, SC.mono _, SC.mono _, SC.mono _, SC.mono _, SC.mono _, SC.mono _, SC.mono _, SC.mono _, SC.mono _, SC.mono _, SC.mono _, SC.mono _, SC.mono _, SC.mono _, SC.mono _, SC.mono _, SC.mono _, SC.mono _, SC.mono _, SC.mono _, SC.mono _, SC.mono _, trivial⟩ ?_ ?_
 ·intro kq hkq a wx hB hp hs
  have hBo : Below w3.heap.size w3 wx := dB hW_9 hB
  have hcase : kq = 0 ∨ kq = 1 ∨ kq = 2 ∨ kq = 3 ∨ kq = 4 ∨ kq = 5 ∨ kq = 6 ∨ kq = 7 ∨ kq = 8 ∨ kq = 9 ∨ kq = 10 ∨ kq = 11 ∨ kq = 12 ∨ kq = 13 ∨ kq = 14 ∨ kq = 15 ∨ kq = 16 ∨ kq = 17 ∨ kq = 18 ∨ kq = 19 ∨ kq = 20 ∨ kq = 21 ∨ kq = 22 := by omega
  rcases hcase with rfl | rfl | rfl | rfl | rfl | rfl | rfl | rfl | rfl | rfl | rfl | rfl | rfl | rfl | rfl | rfl | rfl | rfl | rfl | rfl | rfl | rfl | rfl
  ·clear hp
   exact ⟨_, rfl, .inl ⟨wanted_none rfl, fa_link_packet_1 rfl ((hs 8 rfl).trans ev8)⟩⟩
  ·obtain ⟨k1, -⟩ := hp
   exact ⟨_, rfl, .inl ⟨wanted_none rfl, ld_int rfl k1 (hx8.below hBo) rfl⟩⟩
  ·clear hp
   exact ⟨_, rfl, .inl ⟨wanted_none rfl, op_mv (s := SC _) rfl ((hs 0 rfl).trans ev0)⟩⟩
  ·obtain ⟨k1, -⟩ := hp
   exact ⟨_, rfl, .inl ⟨wanted_none rfl, op_nil rfl k1⟩⟩
  ·obtain ⟨k1, -⟩ := hp
   exact ⟨_, rfl, .inl ⟨wanted_none rfl, fa_link_End_3 rfl k1⟩⟩
  ·obtain ⟨k1, -⟩ := hp
   exact ⟨_, rfl, .inl ⟨wanted_none rfl, ld_int rfl k1 (hx3.below hBo) rfl⟩⟩
  ·clear hp
   exact ⟨_, rfl, .inl ⟨wanted_none rfl, op_mv (s := SC _) rfl ((hs 0 rfl).trans ev0)⟩⟩
  ·obtain ⟨k1, -⟩ := hp
   exact ⟨_, rfl, .inl ⟨wanted_none rfl, op_nil rfl k1⟩⟩
  ·obtain ⟨k1, -⟩ := hp
   exact ⟨_, rfl, .inl ⟨wanted_none rfl, fa_link_End_2 rfl k1⟩⟩
  ·obtain ⟨k1, -⟩ := hp
   exact ⟨_, rfl, .inl ⟨wanted_none rfl, ld_____uint8 rfl k1 (hx3.below hBo) rfl⟩⟩
  ·obtain ⟨k1, -⟩ := hp
   have e0 : a.eval (.tmp 50) = .slice A0 N0 k0 := k1
   simp [Act.eval] at e0
   exact ⟨_, rfl, .inl ⟨wanted_none rfl, Does.val (by simp [execOp, Act.eval, e0, go_sem]) rfl⟩⟩
  ·obtain ⟨k1, k2, -⟩ := hp
   have e0 : a.eval (.tmp 46) = .int .i64 S.acked := k1
   simp [Act.eval] at e0
   have e1 : a.eval (.tmp 51) = .int .i64 ((N0 : Nat) : Int) := k2
   simp [Act.eval] at e1
   exact ⟨_, rfl, .inl ⟨wanted_none rfl, Does.val (by simp [execOp, Act.eval, e0, e1, go_sem, hw1]) rfl⟩⟩
  ·obtain ⟨k1, k2, -⟩ := hp
   have e0 : a.eval (.tmp 42) = .int .i64 q := k1
   simp [Act.eval] at e0
   have e1 : a.eval (.tmp 52) = .int .i64 (S.acked + (N0 : Int)) := k2
   simp [Act.eval] at e1
   exact ⟨_, rfl, .inl ⟨wanted_none rfl, Does.val (by simp [execOp, Act.eval, e0, e1, go_sem, hdq]) rfl⟩⟩
  ·obtain ⟨k1, -⟩ := hp
   exact ⟨_, rfl, .inl ⟨wanted_none rfl, op_mv (s := SC _) rfl k1⟩⟩
  ·obtain ⟨k1, -⟩ := hp
   have hgd : a.eval (.tmp 54) = .bool false := k1
   exact ⟨_, rfl, .inl ⟨(wanted_of rfl rfl hgd).trans rfl, fa_link_packet_0 rfl ((hs 8 rfl).trans ev8)⟩⟩
  ·obtain ⟨k1, k2, -⟩ := hp
   have hgd : a.eval (.tmp 54) = .bool false := k2
   exact ⟨_, rfl, .inl ⟨(wanted_of rfl rfl hgd).trans rfl, ld_int rfl k1 (hx8.below hBo) rfl⟩⟩
  ·obtain ⟨k1, -⟩ := hp
   have hgd : a.eval (.tmp 54) = .bool false := k1
   exact ⟨_, rfl, .inl ⟨(wanted_of rfl rfl hgd).trans rfl, op_mv (s := SC _) rfl ((hs 0 rfl).trans ev0)⟩⟩
  ·obtain ⟨k1, k2, -⟩ := hp
   have hgd : a.eval (.tmp 54) = .bool false := k2
   exact ⟨_, rfl, .inl ⟨(wanted_of rfl rfl hgd).trans rfl, op_nil rfl k1⟩⟩
  ·obtain ⟨k1, k2, -⟩ := hp
   have hgd : a.eval (.tmp 54) = .bool false := k2
   exact ⟨_, rfl, .inl ⟨(wanted_of rfl rfl hgd).trans rfl, fa_link_End_4 rfl k1⟩⟩
  ·obtain ⟨k1, k2, -⟩ := hp
   have hgd : a.eval (.tmp 54) = .bool false := k2
   exact ⟨_, rfl, .inl ⟨(wanted_of rfl rfl hgd).trans rfl, ld_int rfl k1 (hx3.below hBo) rfl⟩⟩
  ·obtain ⟨k1, k2, -⟩ := hp
   have hgd : a.eval (.tmp 54) = .bool false := k2
   have e0 : a.eval (.tmp 60) = .int .i64 S.del := k1
   simp [Act.eval] at e0
   exact ⟨_, rfl, .inl ⟨(wanted_of rfl rfl hgd).trans rfl, Does.val (by simp [execOp, Act.eval, e0, go_sem, hw2]) rfl⟩⟩
  ·obtain ⟨k1, k2, k7, -⟩ := hp
   have hgd : a.eval (.tmp 54) = .bool false := k7
   have e0 : a.eval (.tmp 56) = .int .i64 p := k1
   simp [Act.eval] at e0
   have e1 : a.eval (.tmp 61) = .int .i64 (S.del + 16) := k2
   simp [Act.eval] at e1
   exact ⟨_, rfl, .inl ⟨(wanted_of rfl rfl hgd).trans rfl, Does.val (by simp [execOp, Act.eval, e0, e1, go_sem, hdp]) rfl⟩⟩
  ·obtain ⟨k1, k2, -⟩ := hp
   have e0 : a.eval (.tmp 54) = .bool false := k1
   simp [Act.eval] at e0
   have e1 : a.eval (.tmp 62) = .bool true := k2
   simp [Act.eval] at e1
   exact ⟨_, rfl, .inl ⟨wanted_none rfl, Does.val (by simp [execOp, Act.eval, e0, e1, go_sem]) rfl⟩⟩
 ·intro val wx hB hsp hdis
  have hBo : Below w3.heap.size w3 wx := dB hW_9 hB
  have e22 : val 22 = .bool true := hsp 22 (by omega)
  rw [← HF_.out]
  change wpList _ _ _ [] _ _
  simp only [puts_consT, puts_nilm, vals, List.map_cons, List.map_nil, Nat.zero_add, Nat.reduceAdd, e22, List.setIfInBounds_toArray, List.set_cons_succ, List.set_cons_zero]
  clear hsp hdis HF_ hsz_ hB hW_9 e22 ev0 ev8
  have k8 := Lib.hid (Blw k6.out hBo)
  clear hBo hq hdq hp hdp
  go_wp2
  go_ret2
  exact ⟨_, rfl, RowV.nil _ _, EndTo.same HE.out k8.out⟩
end Go.Proofs.Ytgdibcgphjmofaa
