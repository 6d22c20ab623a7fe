/-
 THE WALK of In, where the packet is taken.
-/
import Derived.Test.YtgdibcgphjmofaaLnkU
namespace Go.Proofs.Ytgdibcgphjmofaa
set_option maxHeartbeats 2000000
open Go.RowKit
open Go.Maps
set_option linter.unusedVariables false
def AckAt (S : K.E) (q : Int) (b : Nat) (own : List Nat) (w wx : World) : Prop := EndAt wx b own (K.ackd S q) ∧ TT own w wx
theorem ack_yes {w5 w6 : World} {b bm : Nat} {S : K.E} {rv v6 : Value} {vs : List Value} {D : DataW Value} {n : Nat} {q : Int}
  (hx : Bx w5 b 65 (K.cells S rv bm)) (hown : w5.ownsRow 0 33 1 rv S.wait.length vs) (hvs : Vs w5 vs S.wait) (hmap : w5.ownsMap Try.prog 3 RV bm S.cnt D) (hheld : HeldIs w5 D S.held)
  (hn : q - S.acked = (n : Int)) (h0 : 0 < n) (ho6 : w6.ownsRow 0 33 1 v6 (S.wait.length - n) (vs.drop n)) (hb6 : v6.ownBlock = rv.ownBlock) (ht : TT rv.ownBlock.toList w5 w6) :
  EndAt ((w6.setCell ⟨b, 2, none⟩ v6).setCell ⟨b, 3, none⟩ (.int .i64 q)) b (b :: bm :: rv.ownBlock.toList) (K.ackd S q) ∧ TT (b :: bm :: rv.ownBlock.toList) w5 ((w6.setCell ⟨b, 2, none⟩ v6).setCell ⟨b, 3, none⟩ (.int .i64 q)) := by
 obtain ⟨hne, hnr⟩ := end_ne hx hown hmap
 have hbR : b ∉ rv.ownBlock.toList := fun e => (hnr b (by simpa using e)).1 rfl
 have hmR : bm ∉ rv.ownBlock.toList := fun e => (hnr bm (by simpa using e)).2 rfl
 have hx6 : Bx w6 b 65 (K.cells S rv bm) := hx.tc ht.1 hbR
 have hx7 := hx6.set_ 2 v6
 have hk7 : KB w6 (w6.setCell ⟨b, 2, none⟩ v6) := (KB.refl _).set_ hx6 (by decide) _
 have hk8 : KB (w6.setCell ⟨b, 2, none⟩ v6) ((w6.setCell ⟨b, 2, none⟩ v6).setCell ⟨b, 3, none⟩ (.int .i64 q)) := (KB.refl _).set_ hx7 (by decide) _
 have hk : KB w5 ((w6.setCell ⟨b, 2, none⟩ v6).setCell ⟨b, 3, none⟩ (.int .i64 q)) := (ht.2.trans hk7).trans hk8
 have hrow : ∀ k, v6.ownBlock = some k → k ≠ b := fun k hk => by rw [hb6] at hk; exact (hnr k hk).1.symm
 have hS : K.ackd S q = { S with wait := S.wait.drop n, acked := q } := by
  unfold K.ackd
  rw [if_pos (by omega), hn]
  rfl
 rw [hS]
 refine ⟨⟨v6, vs.drop n, bm, D, hx7.set_ 3 _, ?_, (hvs.drop n).kb hk, map_set (map_set (map_tc hmap ht.1 hmR) (fun e => hne e.symm) _) (fun e => hne e.symm) _, hheld.kb hk, by rw [hb6]⟩, ((ht.1.mono (fun k hk => by simp [List.mem_cons] at hk ⊢; exact .inr (.inr hk))).set_ (.inl (by simp)) _).set_ (.inl (by simp)) _, hk⟩
 have h := row_set (row_set ho6 (p := ⟨b, 2, none⟩) hrow v6) (p := ⟨b, 3, none⟩) hrow (.int .i64 q)
 simpa using h
theorem look_any {w : World} {bm n : Nat} {D : DataW Value} {k : Int} (hk : W.Is64 k) (hm : w.ownsMap Try.prog 3 RV bm n D) :
  ∃ (v : Value) (g : Bool), ∀ wx : World, wx.ownsMap Try.prog 3 RV bm n D → (Instr.lookup 63 (.map (some bm)) (.int .i64 k) true).run Try.prog wx = .ok (.tuple #[v, .bool g]) wx := by
 obtain ⟨v', ps, hr, hv⟩ := hm.look_ok law_int Try.underlying63 (zeroE w) (zd := zd) (zp := []) rfl (hkey64 hk)
 refine ⟨v', Maps.has D (.int .i64 k), fun wx hx => ?_⟩
 obtain ⟨v2, ps2, hr2, hv2⟩ := hx.look_ok law_int Try.underlying63 (zeroE wx) (zd := zd) (zp := []) rfl (hkey64 hk)
 have e : v2 = v' := by
  unfold RV at hv hv2
  injection hv with hv
  injection hv with hv _
  injection hv2 with hv2
  injection hv2 with hv2 _
  rw [← hv] at hv2
  injection hv2
 rw [e] at hr2
 exact hr2
theorem K.put_yes {S : K.E} {p : Int} {s : List UInt8} (h1 : S.del < p) (h2 : S.held p = none) : K.put S p s = { S with owing := true, held := fun k => if k = p then some s else S.held k, cnt := S.cnt + 1 } := by
 unfold K.put
 rw [if_pos ⟨h1, h2⟩]
theorem K.put_no {S : K.E} {p : Int} {s : List UInt8} (h : ¬ (S.del < p ∧ S.held p = none)) : K.put S p s = { S with owing := true } := by
 unfold K.put
 rw [if_neg h]
theorem HeldIs.put {w : World} {D : DataW Value} {f : Int → Option (List UInt8)} (h : HeldIs w D f) (hD : IsMap D) {x : Int} (hx : W.Is64 x) {v : Value} {l : List UInt8} (hv : BV w v l) : HeldIs w (D.put (.int .i64 x) (.held v)) (fun k => if k = x then some l else f k) := by
 intro k hk
 by_cases hkx : k = x
 ·subst hkx
  simp only [if_true]
  refine ⟨(fun h => by cases h), fun l' hl => ?_⟩
  injection hl with hl
  subst hl
  exact ⟨has_put_same hD (law_int.key (hkey64 hx)) _, v, atKey_put_same hD (law_int.key (hkey64 hx)) _ _, hv⟩
 ·have hne : (Lit.int .i64 k) ≠ (Lit.int .i64 x) := fun e => by injection e with _ e; exact hkx e
  simp only [if_neg hkx]
  rw [has_put_other hne, atKey_put_other hne]
  exact h k hk
/-- The end behind the store into its map. -/
theorem in_put {w w' : World} {b bm : Nat} {S1 : K.E} {rv v : Value} {vs : List Value} {D : DataW Value} {p : Int} {s : List UInt8}
  (hx : Bx w b 65 [.int .i64 S1.win, .int .u64 S1.key, rv, .int .i64 S1.acked, .int .i64 S1.del, .map (some bm), .bool true, .int .i64 S1.forged]) (hown : w.ownsRow 0 33 1 rv S1.wait.length vs) (hvs : Vs w vs S1.wait) (hm : w.ownsMap Try.prog 3 RV bm S1.cnt D) (hh : HeldIs w D S1.held) (hp : W.Is64 p) (hv : BV w v s)
  (hm2 : w'.ownsMap Try.prog 3 RV bm (S1.cnt + 1) (D.put (.int .i64 p) (.held v))) (hg : w.grownBy w' (some bm)) :
  EndAt w' b (b :: bm :: rv.ownBlock.toList) { S1 with owing := true, held := fun k => if k = p then some s else S1.held k, cnt := S1.cnt + 1 } ∧ TT (b :: bm :: rv.ownBlock.toList) w w' := by
 obtain ⟨hne, hnr⟩ := end_ne hx hown hm
 have hk : KB w w' := (KB.refl _).grown hg (fun k hk cs fr e => by
  injection hk with hk; subst hk
  obtain ⟨es, ck, h1, _⟩ := hm
  rw [h1] at e; cases e)
 refine ⟨⟨rv, vs, bm, _, (hg.block b hx.lt (fun e => by injection e with e; exact hne e)).trans hx, ?_, hvs.kb hk, hm2, (hh.put hm.isMap hp hv).kb hk, rfl⟩, (Tc.refl _ _).grown hg (fun k hk => by injection hk with hk; subst hk; exact .inl (by simp)), hk⟩
 exact hown.kept hg (by
  rcases hq : rv.ownBlock with _ | k
  ·exact .inl rfl
  ·exact .inr (fun e => by injection e with e; exact (hnr k hq).2 e.symm))
theorem RowV.base {B B' : Nat} {w : World} {v : Value} {ls : List (List UInt8)} (h : RowV B w v ls) (hB : B' ≤ B) : RowV B' w v ls := by
 obtain ⟨vs, h1, h2⟩ := h
 exact ⟨vs, own_base h1 hB, h2⟩
def RDone (r : List (List UInt8) × Int × K.E) (b : Nat) (own : List Nat) (w : World) (e : Ending) (w' : World) : Prop := ∃ v, e = .returned v ∧ RIn r b own w (.returned (.tuple #[v, .int .i64 0])) w'
theorem in_deliver2 {b : Nat} {own : List Nat} {S1 S3 : K.E} {p : Int} {s : List UInt8} {w w9 : World} (hT : TT own w w9) (hE : EndAt w9 b own S3) (h3 : K.put S1 p s = S3) (hd0 : 0 ≤ S3.del) (hd1 : S3.del ≤ 1000000000) (hc : S3.cnt ≤ 1000000000) :
  Calls Try.prog 38 #[.pointer (some ⟨b, 0, none⟩)] w9 (RDone ((K.dlv (K.put S1 p s).cnt (K.put S1 p s)).1, 0, (K.dlv (K.put S1 p s).cnt (K.put S1 p s)).2) b own w) := by
 rw [h3]
 refine (deliver_any b own S3 w9 hE hd0 hd1 hc).mono ?_
 rintro e w12 ⟨v12, rfl, hr, hE12, hT12⟩
 exact ⟨v12, rfl, v12, rfl, hr.base hT.1.size, hE12, (TT.rel own).trans hT hT12⟩
theorem in_deliver {b : Nat} {own own2 : List Nat} {S1 S3 : K.E} {p : Int} {s : List UInt8} {w w9 w11 : World} (hT : TT own w w9) (ho : own = own2) (hE : EndAt w11 b own2 S3 ∧ TT own2 w9 w11) (h3 : K.put S1 p s = S3) (hd0 : 0 ≤ S3.del) (hd1 : S3.del ≤ 1000000000) (hc : S3.cnt ≤ 1000000000) :
  Calls Try.prog 38 #[.pointer (some ⟨b, 0, none⟩)] w11 (RDone ((K.dlv (K.put S1 p s).cnt (K.put S1 p s)).1, 0, (K.dlv (K.put S1 p s).cnt (K.put S1 p s)).2) b own w) := by
 subst ho
 exact in_deliver2 (S1 := S1) (p := p) (s := s) ((TT.rel own).trans hT hE.2) hE.1 h3 hd0 hd1 hc
attribute [local go_sem] run_store_one in
set_option maxRecDepth 100000 in
theorem in_main (b : Nat) (own : List Nat) (S : K.E) (x : Value) (l : List UInt8) (w : World) (h : EndAt w b own S) (ok : K.ok S) (hbv : BV w x l) (hl : l.length ≤ 1000000000000) (hE : (K.unseal S.key l).2 = 0) (p q : Int) (s : List UInt8) (hR : K.read (K.unseal S.key l).1 = some (p, q, s)) (hp0 : 0 ≤ p) (hq0 : 0 ≤ q) (hpm : p ≤ 9223372036854775807) (hqm : q ≤ 9223372036854775807) (hs : s.length ≤ 65536) (hq : ¬ S.acked + (S.wait.length : Int) < q) (hp : ¬ S.del + 16 < p) :
  Calls Try.prog 19 #[.pointer (some ⟨b, 0, none⟩), x] w (RIn (K.into S p q s) b own w) := by
 obtain ⟨w1_, w2_, a1, a2, d1, d2, f1, f2, hn, hlw, hcn, hkk⟩ := ok
 obtain ⟨A, c, rfl, hc, hm, hr, -⟩ := hbv
 have hop := open_any S.key A c w.heap.size l w hr (Nat.le_refl _) hc hm (by omega)
 have HE := Lib.hid h
 have hlt := h.lt
 obtain ⟨rv, vs, bm, D, hx, hown0, hvs0, hmap0, hheld0, hown_⟩ := h
 have hbw : b < w.heap.size := hx.lt
 obtain ⟨c0, c1, c2, c3, c4, c5, c6, c7, z, l0⟩ := hx.f8
 have hul := unseal_len S.key l
 obtain ⟨N, hN⟩ : ∃ N, N = l.length := ⟨_, rfl⟩
 rw [← hN] at hop hul hl ⊢
 have HOP := Lib.hid hop; have HER := Lib.hid hE; have HRD := Lib.hid hR; have HLT := Lib.hid hlt
 have HO0 := Lib.hid hown0; have HV0 := Lib.hid hvs0; have HM0 := Lib.hid hmap0; have HH0 := Lib.hid hheld0; have HOWN := Lib.hid hown_
 clear hop hE hN hc hm hr hR hlt hlw hkk hown0 hvs0 hmap0 hheld0 hown_
 go_enter Try.func19, Try.ntmps19
 go_wp2_with fail
 refine HOP.out.mono ?_
 rintro e w1 ⟨v1, rfl, hown, hb⟩
 rw [HER.out]
 obtain ⟨A1, c1', e1, h1c, h1m, h1r, -⟩ := own_bv hown
 have hrd := read_any A1 c1' w1.heap.size _ w1 h1r (Nat.le_refl _) h1c h1m (by omega)
 rw [HRD.out, ← e1] at hrd
 have HRR := Lib.hid hrd
 have HB := Lib.hid hb
 obtain rfl := e1
 clear hown hb c0 c1 c2 c3 c4 c5 c6 c7 z h1r hrd
 go_wp2_with fail
 refine HRR.out.mono ?_
 rintro e w2 ⟨v2, rfl, hbv2, kd⟩
 have k9 := Lib.hid (Blw HB.out kd)
 have HBV2 := Lib.hid hbv2
 obtain ⟨A2, c2, rfl, -⟩ := hbv2
 obtain ⟨n2, hn2⟩ : ∃ n, n = s.length := ⟨_, rfl⟩
 rw [← hn2] at HBV2 hs ⊢
 have HN2 := Lib.hid hn2
 clear kd hn2
 go_wp2_with fail
 generalize hW3 : w2.alloc (.cells _ 68) = w3
 obtain ⟨hx8, ka⟩ := box1 hW3
 have kc := Lib.hid (Blw k9.out ka)
 have HBV3 := Lib.hid (HBV2.out.below ka)
 have hx3 := hx.below kc.out
 obtain ⟨g8, hg8⟩ : ∃ g, g = w2.heap.size := ⟨_, rfl⟩
 rw [← hg8] at hx8 ⊢
 have hgw : w.heap.size ≤ g8 := by rw [hg8]; exact k9.out.size
 obtain ⟨N0, hN0⟩ : ∃ N, N = S.wait.length := ⟨_, rfl⟩
 have HWN := Lib.hid hN0
 rw [← hN0] at hn
 obtain ⟨A0, k0, e0, -⟩ := own_form HO0.out
 rw [← hN0] at e0
 subst e0
 clear hW3 ka hg8 hN0 k9 HBV2 hx
 have hw1 : IntKind.i64.wrap (S.acked + (N0 : Int)) = S.acked + (N0 : Int) := by rw [IntKind.wrap_i64]; omega
 have hw2 : IntKind.i64.wrap (S.del + 16) = S.del + 16 := by rw [IntKind.wrap_i64]; omega
 have hdq := decide_eq_false (show ¬ S.acked + (N0 : Int) < q by have := HWN.out; omega)
 have hdp := decide_eq_false (show ¬ S.del + 16 < p by omega)
 have hqN : q - S.acked ≤ (N0 : Int) := by have := HWN.out; omega
 go_upto_region 9 with fail
 generalize hW_9 : w3.drew = W_9
 refine gen_act ?_
 intro F_ hF_
 have ev0 : F_.eval (.tmp 0) = .pointer (some ⟨b, 0, none⟩) := by rw [← hF_]; rfl
 have ev8 : F_.eval (.tmp 8) = .pointer (some ⟨g8, 0, none⟩) := by rw [← hF_]; rfl
 have hsz_ : ∀ d ∈ ([(41, []), (42, [0]), (43, []), (44, [2]), (45, [3]), (46, [4]), (47, []), (48, [6]), (49, [7]), (50, [8]), (51, [9]), (52, [5, 10]), (53, [1, 11]), (54, [12]), (55, [13]), (56, [14, 13]), (57, [13]), (58, [16, 13]), (59, [17, 13]), (60, [18, 13]), (61, [19, 13]), (62, [15, 20, 13]), (63, [13, 21])] : List (Nat × List Nat)).map (·.1), d < F_.tmps.size := by rw [← hF_]; simp
 have HF_ := Lib.hid hF_; clear hF_
 refine wp_flow_tabG true hW_9 23 [(41, []), (42, [0]), (43, []), (44, [2]), (45, [3]), (46, [4]), (47, []), (48, [6]), (49, [7]), (50, [8]), (51, [9]), (52, [5, 10]), (53, [1, 11]), (54, [12]), (55, [13]), (56, [14, 13]), (57, [13]), (58, [16, 13]), (59, [17, 13]), (60, [18, 13]), (61, [19, 13]), (62, [15, 20, 13]), (63, [13, 21])] [SC (.pointer (some ⟨g8, 1, none⟩)), SC (.int .i64 q), SC (.pointer (some ⟨b, 0, none⟩)), SC (.pointer (some ⟨b, 0, none⟩)), SC (.pointer (some ⟨b, 3, none⟩)), SC (.int .i64 S.acked), SC (.pointer (some ⟨b, 0, none⟩)), SC (.pointer (some ⟨b, 0, none⟩)), SC (.pointer (some ⟨b, 2, none⟩)), SC (.slice A0 N0 k0), SC (.int .i64 ((N0 : Nat) : Int)), SC (.int .i64 (S.acked + (N0 : Int))), SC (.bool false), SC (.bool false), SC (.pointer (some ⟨g8, 0, none⟩)), SC (.int .i64 p), SC (.pointer (some ⟨b, 0, none⟩)), SC (.pointer (some ⟨b, 0, none⟩)), SC (.pointer (some ⟨b, 4, none⟩)), SC (.int .i64 S.del), SC (.int .i64 (S.del + 16)), SC (.bool false), SC (.bool false)] [false, false, false, false, false, false, false, false, false, false, false, false, false, false, false, false, false, false, false, false, false, false, false] (by kernel_rfl) (by kernel_rfl) (by kernel_rfl) (by kernel_rfl) (by kernel_rfl) hsz_ ⟨SC.mono _, SC.mono _, SC.mono _, SC.mono _, SC.mono _, SC.mono _, SC.mono _, SC.mono _, SC.mono _, SC.mono _, SC.mono _, SC.mono _, SC.mono _, SC.mono _, SC.mono _, SC.mono _, SC.mono _, SC.mono _, SC.mono _, SC.mono _, SC.mono _, SC.mono _, SC.mono _, trivial⟩ ?_ ?_
 ·intro kq hkq a wx hB hp hs
  have hBo : Below w3.heap.size w3 wx := dB hW_9 hB
  have hcase : kq = 0 ∨ kq = 1 ∨ kq = 2 ∨ kq = 3 ∨ kq = 4 ∨ kq = 5 ∨ kq = 6 ∨ kq = 7 ∨ kq = 8 ∨ kq = 9 ∨ kq = 10 ∨ kq = 11 ∨ kq = 12 ∨ kq = 13 ∨ kq = 14 ∨ kq = 15 ∨ kq = 16 ∨ kq = 17 ∨ kq = 18 ∨ kq = 19 ∨ kq = 20 ∨ kq = 21 ∨ kq = 22 := by omega
  rcases hcase with rfl | rfl | rfl | rfl | rfl | rfl | rfl | rfl | rfl | rfl | rfl | rfl | rfl | rfl | rfl | rfl | rfl | rfl | rfl | rfl | rfl | rfl | rfl
  ·clear hp
   exact ⟨_, rfl, .inl ⟨wanted_none rfl, fa_link_packet_1 rfl ((hs 8 rfl).trans ev8)⟩⟩
  ·obtain ⟨k1, -⟩ := hp
   exact ⟨_, rfl, .inl ⟨wanted_none rfl, ld_int rfl k1 (hx8.below hBo) rfl⟩⟩
  ·clear hp
   exact ⟨_, rfl, .inl ⟨wanted_none rfl, op_mv (s := SC _) rfl ((hs 0 rfl).trans ev0)⟩⟩
  ·obtain ⟨k1, -⟩ := hp
   exact ⟨_, rfl, .inl ⟨wanted_none rfl, op_nil rfl k1⟩⟩
  ·obtain ⟨k1, -⟩ := hp
   exact ⟨_, rfl, .inl ⟨wanted_none rfl, fa_link_End_3 rfl k1⟩⟩
  ·obtain ⟨k1, -⟩ := hp
   exact ⟨_, rfl, .inl ⟨wanted_none rfl, ld_int rfl k1 (hx3.below hBo) rfl⟩⟩
  ·clear hp
   exact ⟨_, rfl, .inl ⟨wanted_none rfl, op_mv (s := SC _) rfl ((hs 0 rfl).trans ev0)⟩⟩
  ·obtain ⟨k1, -⟩ := hp
   exact ⟨_, rfl, .inl ⟨wanted_none rfl, op_nil rfl k1⟩⟩
  ·obtain ⟨k1, -⟩ := hp
   exact ⟨_, rfl, .inl ⟨wanted_none rfl, fa_link_End_2 rfl k1⟩⟩
  ·obtain ⟨k1, -⟩ := hp
   exact ⟨_, rfl, .inl ⟨wanted_none rfl, ld_____uint8 rfl k1 (hx3.below hBo) rfl⟩⟩
  ·obtain ⟨k1, -⟩ := hp
   have e0 : a.eval (.tmp 50) = .slice A0 N0 k0 := k1
   simp [Act.eval] at e0
   exact ⟨_, rfl, .inl ⟨wanted_none rfl, Does.val (by simp [execOp, Act.eval, e0, go_sem]) rfl⟩⟩
  ·obtain ⟨k1, k2, -⟩ := hp
   have e0 : a.eval (.tmp 46) = .int .i64 S.acked := k1
   simp [Act.eval] at e0
   have e1 : a.eval (.tmp 51) = .int .i64 ((N0 : Nat) : Int) := k2
   simp [Act.eval] at e1
   exact ⟨_, rfl, .inl ⟨wanted_none rfl, Does.val (by simp [execOp, Act.eval, e0, e1, go_sem, hw1]) rfl⟩⟩
  ·obtain ⟨k1, k2, -⟩ := hp
   have e0 : a.eval (.tmp 42) = .int .i64 q := k1
   simp [Act.eval] at e0
   have e1 : a.eval (.tmp 52) = .int .i64 (S.acked + (N0 : Int)) := k2
   simp [Act.eval] at e1
   exact ⟨_, rfl, .inl ⟨wanted_none rfl, Does.val (by simp [execOp, Act.eval, e0, e1, go_sem, hdq]) rfl⟩⟩
  ·obtain ⟨k1, -⟩ := hp
   exact ⟨_, rfl, .inl ⟨wanted_none rfl, op_mv (s := SC _) rfl k1⟩⟩
  ·obtain ⟨k1, -⟩ := hp
   have hgd : a.eval (.tmp 54) = .bool false := k1
   exact ⟨_, rfl, .inl ⟨(wanted_of rfl rfl hgd).trans rfl, fa_link_packet_0 rfl ((hs 8 rfl).trans ev8)⟩⟩
  ·obtain ⟨k1, k2, -⟩ := hp
   have hgd : a.eval (.tmp 54) = .bool false := k2
   exact ⟨_, rfl, .inl ⟨(wanted_of rfl rfl hgd).trans rfl, ld_int rfl k1 (hx8.below hBo) rfl⟩⟩
  ·obtain ⟨k1, -⟩ := hp
   have hgd : a.eval (.tmp 54) = .bool false := k1
   exact ⟨_, rfl, .inl ⟨(wanted_of rfl rfl hgd).trans rfl, op_mv (s := SC _) rfl ((hs 0 rfl).trans ev0)⟩⟩
  ·obtain ⟨k1, k2, -⟩ := hp
   have hgd : a.eval (.tmp 54) = .bool false := k2
   exact ⟨_, rfl, .inl ⟨(wanted_of rfl rfl hgd).trans rfl, op_nil rfl k1⟩⟩
  ·obtain ⟨k1, k2, -⟩ := hp
   have hgd : a.eval (.tmp 54) = .bool false := k2
   exact ⟨_, rfl, .inl ⟨(wanted_of rfl rfl hgd).trans rfl, fa_link_End_4 rfl k1⟩⟩
  ·obtain ⟨k1, k2, -⟩ := hp
   have hgd : a.eval (.tmp 54) = .bool false := k2
   exact ⟨_, rfl, .inl ⟨(wanted_of rfl rfl hgd).trans rfl, ld_int rfl k1 (hx3.below hBo) rfl⟩⟩
  ·obtain ⟨k1, k2, -⟩ := hp
   have hgd : a.eval (.tmp 54) = .bool false := k2
   have e0 : a.eval (.tmp 60) = .int .i64 S.del := k1
   simp [Act.eval] at e0
   exact ⟨_, rfl, .inl ⟨(wanted_of rfl rfl hgd).trans rfl, Does.val (by simp [execOp, Act.eval, e0, go_sem, hw2]) rfl⟩⟩
  ·obtain ⟨k1, k2, kh, -⟩ := hp
   have hgd : a.eval (.tmp 54) = .bool false := kh
   have e0 : a.eval (.tmp 56) = .int .i64 p := k1
   simp [Act.eval] at e0
   have e1 : a.eval (.tmp 61) = .int .i64 (S.del + 16) := k2
   simp [Act.eval] at e1
   exact ⟨_, rfl, .inl ⟨(wanted_of rfl rfl hgd).trans rfl, Does.val (by simp [execOp, Act.eval, e0, e1, go_sem, hdp]) rfl⟩⟩
  ·obtain ⟨k1, k2, -⟩ := hp
   have e0 : a.eval (.tmp 54) = .bool false := k1
   simp [Act.eval] at e0
   have e1 : a.eval (.tmp 62) = .bool false := k2
   simp [Act.eval] at e1
   exact ⟨_, rfl, .inl ⟨wanted_none rfl, Does.val (by simp [execOp, Act.eval, e0, e1, go_sem]) rfl⟩⟩
 ·intro val wx hB hsp hdis
  have hBo : Below w3.heap.size w3 wx := dB hW_9 hB
  have e22 : val 22 = .bool false := hsp 22 (by omega)
  rw [← HF_.out]
  change wpList _ _ _ [] _ _
  simp only [puts_consT, puts_nilm, vals, List.map_cons, List.map_nil, Nat.zero_add, Nat.reduceAdd, e22, List.setIfInBounds_toArray, List.set_cons_succ, List.set_cons_zero]
  clear hsp hdis HF_ hsz_ hB hW_9 e22 ev0 ev8
  obtain ⟨w4, rfl⟩ : ∃ w4 : World, w4 = wx := ⟨_, rfl⟩
  have ke := Lib.hid (Blw kc.out hBo)
  have hx4 := hx3.below hBo
  have hx84 := hx8.below hBo
  have HBV4 := Lib.hid (HBV3.out.below hBo)
  have hw3 : IntKind.i64.wrap (q - S.acked) = q - S.acked := by rw [IntKind.wrap_i64]; omega
  clear hBo hdq hdp hx3 hx8 HBV3 kc
  go_wp2_with fail
  go_upto_region 11 with fail
  generalize hW_11 : w4.drew = W_11
  refine gen_act ?_
  intro F_ hF_
  have ev0 : F_.eval (.tmp 0) = .pointer (some ⟨b, 0, none⟩) := by rw [← hF_]; rfl
  have ev8 : F_.eval (.tmp 8) = .pointer (some ⟨g8, 0, none⟩) := by rw [← hF_]; rfl
  have hsz_ : ∀ d ∈ ([(64, []), (65, [0]), (66, []), (67, [2]), (68, [3]), (69, [4]), (70, [1, 5]), (10, [6])] : List (Nat × List Nat)).map (·.1), d < F_.tmps.size := by rw [← hF_]; simp
  have HF_ := Lib.hid hF_; clear hF_
  refine wp_flow_tab true hW_11 8 [(64, []), (65, [0]), (66, []), (67, [2]), (68, [3]), (69, [4]), (70, [1, 5]), (10, [6])] [SC (.pointer (some ⟨g8, 1, none⟩)), SC (.int .i64 q), SC (.pointer (some ⟨b, 0, none⟩)), SC (.pointer (some ⟨b, 0, none⟩)), SC (.pointer (some ⟨b, 3, none⟩)), SC (.int .i64 S.acked), SC (.int .i64 (q - S.acked)), SC (.int .i64 (q - S.acked))] [false, false, false, false, false, false, false, false] (by kernel_rfl) (by kernel_rfl) (by kernel_rfl) (by kernel_rfl) (by kernel_rfl) hsz_ ⟨SC.mono _, SC.mono _, SC.mono _, SC.mono _, SC.mono _, SC.mono _, SC.mono _, SC.mono _, trivial⟩ ?_ ?_
  ·intro kq hkq a wx hB hp hs
   have hBo : Below w4.heap.size w4 wx := dB hW_11 hB
   have hcase : kq = 0 ∨ kq = 1 ∨ kq = 2 ∨ kq = 3 ∨ kq = 4 ∨ kq = 5 ∨ kq = 6 ∨ kq = 7 := by omega
   rcases hcase with rfl | rfl | rfl | rfl | rfl | rfl | rfl | rfl
   ·clear hp
    exact ⟨_, rfl, fa_link_packet_1 rfl ((hs 8 rfl).trans ev8)⟩
   ·obtain ⟨k1, -⟩ := hp
    exact ⟨_, rfl, ld_int rfl k1 (hx84.below hBo) rfl⟩
   ·clear hp
    exact ⟨_, rfl, op_mv (s := SC _) rfl ((hs 0 rfl).trans ev0)⟩
   ·obtain ⟨k1, -⟩ := hp
    exact ⟨_, rfl, op_nil rfl k1⟩
   ·obtain ⟨k1, -⟩ := hp
    exact ⟨_, rfl, fa_link_End_3 rfl k1⟩
   ·obtain ⟨k1, -⟩ := hp
    exact ⟨_, rfl, ld_int rfl k1 (hx4.below hBo) rfl⟩
   ·obtain ⟨k1, k2, -⟩ := hp
    have e0 : a.eval (.tmp 65) = .int .i64 q := k1
    simp [Act.eval] at e0
    have e1 : a.eval (.tmp 69) = .int .i64 S.acked := k2
    simp [Act.eval] at e1
    exact ⟨_, rfl, Does.val (by simp [execOp, Act.eval, e0, e1, go_sem, hw3]) rfl⟩
   ·obtain ⟨k1, -⟩ := hp
    exact ⟨_, rfl, op_as (s := SC _) rfl k1⟩
  ·intro val wx hB hsp hdis
   have hBo : Below w4.heap.size w4 wx := dB hW_11 hB
   have e7 : val 7 = .int .i64 (q - S.acked) := hsp 7 (by omega)
   rw [← HF_.out]
   change wpList _ _ _ [] _ _
   simp only [puts_consT, puts_nilm, vals, List.map_cons, List.map_nil, Nat.zero_add, Nat.reduceAdd, e7, List.setIfInBounds_toArray, List.set_cons_succ, List.set_cons_zero]
   clear hsp hdis HF_ hsz_ hB hW_11 e7 ev0 ev8
   obtain ⟨w5, rfl⟩ : ∃ w5 : World, w5 = wx := ⟨_, rfl⟩
   have k4 := Lib.hid (Blw ke.out hBo)
   have hx5 := hx4.below hBo
   have hx85 := hx84.below hBo
   have HBV5 := Lib.hid (HBV4.out.below hBo)
   clear hBo hx4 hx84 HBV4 ke
   go_upto_if 72 with fail
   have HX5 := Lib.hid (show Bx w5 b 65 (K.cells S (.slice A0 N0 k0) bm) from hx5)
   have HO5 := Lib.hid (own_below HO0.out k4.out)
   have HV5 := Lib.hid (HV0.out.kb (.of k4.out))
   have HM5 := Lib.hid (map_tc HM0.out (Tc.of k4.out) (R := []) (by simp))
   have HH5 := Lib.hid (HH0.out.kb (.of k4.out))
   go_cut [] (fun wx => Hid (AckAt S q b own w wx) ∧ Hid (Bx wx g8 68 [.int .i64 p, .int .i64 q, .slice A2 n2 c2]) ∧ Hid (BV wx (.slice A2 n2 c2) s))
   case first =>
    by_cases hn1 : 0 < q - S.acked
    ·have hnd := decide_eq_true hn1
     obtain ⟨n, hnn⟩ : ∃ n : Nat, q - S.acked = (n : Int) := ⟨(q - S.acked).toNat, by omega⟩
     have hdel := delete_any (.slice A0 N0 k0) N0 n vs w5 (by have h := HO5.out; rw [← HWN.out] at h; exact h) HV5.out.one (by omega) (by omega)
     rw [← hnn] at hdel
     have HDEL := Lib.hid hdel; have HNN := Lib.hid hnn
     clear hdel hnn
     obtain ⟨c0, c1, c2, c3, c4, c5, c6, c7, z, l0⟩ := hx5.f8
     go_wp2_with fail
     refine HDEL.out.mono ?_
     rintro e w6 ⟨v6, rfl, ho6, kf, ht6⟩
     have hnr := (end_ne HX5.out HO5.out HM5.out).2
     have hbR : b ∉ (Value.slice A0 N0 k0).ownBlock.toList := fun e => (hnr b (by simpa using e)).1 rfl
     have hgR : g8 ∉ (Value.slice A0 N0 k0).ownBlock.toList := fun e => by have := (HO0.out.lt g8 (by simpa using e)).2; omega
     have hx6 := hx5.tc ht6.1 hbR
     have hx86 := hx85.tc ht6.1 hgR
     obtain ⟨A6, k6, e6, -⟩ := own_form ho6
     subst e6
     have HA := Lib.hid (ack_yes HX5.out HO5.out HV5.out HM5.out HH5.out HNN.out (by have := HNN.out; omega) (by rw [← HWN.out]; exact ho6) kf ht6)
     have HT6 := Lib.hid ht6
     have hgb : g8 ≠ b := by omega
     clear c0 c1 c2 c3 c4 c5 c6 c7 z l0 ho6 kf ht6 hnr hbR hgR
     obtain ⟨c0, c1, c2, c3, c4, c5, c6, c7, z, l0⟩ := hx6.f8
     obtain ⟨d0, d1, d2, z2, l2⟩ := f3 hx86
     go_wp2_with fail
     go_meet
     have hg : g8 ≠ b := hgb
     refine ⟨Lib.hid ?_, Lib.hid ?_, Lib.hid ?_⟩
     ·rw [HOWN.out]; exact ⟨HA.out.1, (TT.rel _).trans ⟨Tc.of k4.out, KB.of k4.out⟩ HA.out.2⟩
     ·exact (hx86.far_ hg _).far_ hg _
     ·exact HBV5.out.kb HA.out.2.2
    ·have hnd := decide_eq_false hn1
     have hS : K.ackd S q = S := by unfold K.ackd; rw [if_neg hn1]
     have HS := Lib.hid hS
     clear hS
     go_wp2_with fail
     go_meet
     refine ⟨Lib.hid ⟨?_, ⟨Tc.of k4.out, KB.of k4.out⟩⟩, Lib.hid hx85, HBV5⟩
     rw [HS.out]; exact HE.out.below k4.out
   case rest =>
    obtain ⟨HA, HX8, HBVc⟩ := hcut
    obtain ⟨hE1, hT1⟩ := HA.out
    have hx8c := HX8.out
    have hS1 : (K.ackd S q).del = S.del ∧ (K.ackd S q).held = S.held ∧ (K.ackd S q).cnt = S.cnt := by unfold K.ackd; split <;> exact ⟨rfl, rfl, rfl⟩
    have hin : K.into S p q s = if p = 0 then ([], 0, K.ackd S q) else ((K.dlv (K.put (K.ackd S q) p s).cnt (K.put (K.ackd S q) p s)).1, 0, (K.dlv (K.put (K.ackd S q) p s).cnt (K.put (K.ackd S q) p s)).2) := by
     unfold K.into
     rw [if_neg (by rintro (h | h) <;> omega)]
    generalize K.ackd S q = S1 at hE1 hS1 hin
    have HIN := Lib.hid hin
    have HE1 := Lib.hid hE1; have HT1 := Lib.hid hT1
    have hdel : S1.del = S.del := hS1.1
    have hd3 : 0 ≤ S1.del := by omega
    have hd4 : S1.del ≤ 1000000000 := by omega
    have kj : S1.cnt ≤ 900000000 := by have := hS1.2.2; omega
    have hp5 : p ≤ S1.del + 16 := by omega
    clear hin HA HX8 hE1 hT1 hS1 hdel hx5 hx85 HX5 HO5 HV5 HM5 HH5 HBV5 k4 HWN HOWN
    obtain ⟨d0, d1_, d2_, z2, l2⟩ := f3 hx8c
    by_cases hp00 : p = 0
    ·subst hp00
     go_wp2
     go_ret2
     rw [HIN.out]
     first | rw [if_pos rfl] | rw [if_pos trivial]
     exact ⟨_, rfl, RowV.nil _ _, HE1.out, HT1.out⟩
    ·have hpz : ((p : Int) == 0) = false := beq_eq_false_iff_ne.2 hp00
     have HIN2 := Lib.hid (HIN.out.trans (if_neg hp00))
     have HP0 := Lib.hid hp00; clear hp00 HIN
     have hx_c : ∃ rv bm, Bx wc b 65 (K.cells S1 rv bm) := by
      obtain ⟨rv, vs, bm, D, h, _⟩ := HE1.out
      exact ⟨rv, bm, h⟩
     obtain ⟨rvc, bmc, hxc⟩ := hx_c
     obtain ⟨c0, c1, c2_, c3, c4, c5, c6, c7, z, l0⟩ := Bx.f8 (show Bx wc b _ [_, _, _, _, _, _, _, _] from hxc)
     go_upto_region 18 with fail
     generalize hW7 : wc.setCell ⟨b, 6, none⟩ _ = w7
     obtain ⟨hE7, hT7⟩ := HE1.out.set_ 6 (.bool true) { S1 with owing := true } (fun _ _ => rfl) rfl rfl rfl
     rw [hW7] at hE7 hT7
     have hgb : g8 ≠ b := by omega
     have hx87 : Bx w7 g8 68 [.int .i64 p, .int .i64 q, .slice A2 n2 c2] := by rw [← hW7]; exact hx8c.far_ hgb _
     have HBV7 := Lib.hid (HBVc.out.kb hT7.2)
     have HT7 := Lib.hid ((TT.rel own).trans HT1.out hT7)
     have HE7 := Lib.hid hE7
     obtain ⟨rv7, vs7, bm7, D7, hx7, hown7, hvs7, hmap7, hheld7, hown_7⟩ := hE7
     have HO7 := Lib.hid hown7; have HV7 := Lib.hid hvs7; have HM7 := Lib.hid hmap7; have HH7 := Lib.hid hheld7; have HW7 := Lib.hid hown_7
     have hp64 : W.Is64 p := by unfold W.Is64; omega
     have hh := hheld7 p hp64
     clear hW7 hT7 hown7 hvs7 hmap7 hheld7 hown_7 c0 c1 c2_ c3 c4 c5 c6 c7 z l0 d0 d1_ d2_ z2 l2 hx8c hxc HBVc
     by_cases hpp : S1.del < p
     ·have hpd := decide_eq_true hpp
      rcases hf : S1.held p with _ | l7
      ·have HLK := Lib.hid (fun (wx : World) (hB : Below w7.heap.size w7 wx) => look_none (map_tc HM7.out (Tc.of hB) (R := []) (by simp)) hp64 (hh.1 hf))
       have HF := Lib.hid hf
       clear hh hf
       go_wp2_with fail
       go_upto_region 18 with fail
       generalize hW_18 : w7.drew = W_18
       refine gen_act ?_
       intro F_ hF_
       have ev0 : F_.eval (.tmp 0) = .pointer (some ⟨b, 0, none⟩) := by rw [← hF_]; rfl
       have ev8 : F_.eval (.tmp 8) = .pointer (some ⟨g8, 0, none⟩) := by rw [← hF_]; rfl
       have hsz_ : ∀ d ∈ ([(94, []), (95, [0]), (96, [1]), (97, [2]), (98, []), (99, [4]), (100, [3, 5]), (93, [6]), (101, [7]), (102, [7]), (11, [8]), (12, [9])] : List (Nat × List Nat)).map (·.1), d < F_.tmps.size := by rw [← hF_]; simp
       have HF_ := Lib.hid hF_; clear hF_
       refine wp_flow_tab true hW_18 12 [(94, []), (95, [0]), (96, [1]), (97, [2]), (98, []), (99, [4]), (100, [3, 5]), (93, [6]), (101, [7]), (102, [7]), (11, [8]), (12, [9])] [SC (.pointer (some ⟨b, 0, none⟩)), SC (.pointer (some ⟨b, 0, none⟩)), SC (.pointer (some ⟨b, 5, none⟩)), SC (.map (some bm7)), SC (.pointer (some ⟨g8, 0, none⟩)), SC (.int .i64 p), SC (.tuple #[.slice none 0 0, .bool false]), SC (.tuple #[.slice none 0 0, .bool false]), SC (.slice none 0 0), SC (.bool false), SC (.slice none 0 0), SC (.bool false)] [false, false, false, false, false, false, false, false, false, false, false, false] (by kernel_rfl) (by kernel_rfl) (by kernel_rfl) (by kernel_rfl) (by kernel_rfl) hsz_ ⟨SC.mono _, SC.mono _, SC.mono _, SC.mono _, SC.mono _, SC.mono _, SC.mono _, SC.mono _, SC.mono _, SC.mono _, SC.mono _, SC.mono _, trivial⟩ ?_ ?_
       ·intro kq hkq a wx hB hp hs
        have hBo : Below w7.heap.size w7 wx := dB hW_18 hB
        have hcase : kq = 0 ∨ kq = 1 ∨ kq = 2 ∨ kq = 3 ∨ kq = 4 ∨ kq = 5 ∨ kq = 6 ∨ kq = 7 ∨ kq = 8 ∨ kq = 9 ∨ kq = 10 ∨ kq = 11 := by omega
        rcases hcase with rfl | rfl | rfl | rfl | rfl | rfl | rfl | rfl | rfl | rfl | rfl | rfl
        ·clear hp
         exact ⟨_, rfl, op_mv (s := SC _) rfl ((hs 0 rfl).trans ev0)⟩
        ·obtain ⟨k1, -⟩ := hp
         exact ⟨_, rfl, op_nil rfl k1⟩
        ·obtain ⟨k1, -⟩ := hp
         exact ⟨_, rfl, fa_link_End_5 rfl k1⟩
        ·obtain ⟨k1, -⟩ := hp
         exact ⟨_, rfl, ld_map_int___uint8 rfl k1 (hx7.below hBo) rfl⟩
        ·clear hp
         exact ⟨_, rfl, fa_link_packet_0 rfl ((hs 8 rfl).trans ev8)⟩
        ·obtain ⟨k1, -⟩ := hp
         exact ⟨_, rfl, ld_int rfl k1 (hx87.below hBo) rfl⟩
        ·obtain ⟨k1, k2, -⟩ := hp
         have e0 : a.eval (.tmp 97) = .map (some bm7) := k1
         simp [Act.eval] at e0
         have e1 : a.eval (.tmp 99) = .int .i64 p := k2
         simp [Act.eval] at e1
         exact ⟨_, rfl, Does.val (by simp [execOp, Act.eval, e0, e1, go_sem, HLK.out wx hBo]) rfl⟩
        ·obtain ⟨k1, -⟩ := hp
         exact ⟨_, rfl, op_mv (s := SC _) rfl k1⟩
        ·obtain ⟨k1, -⟩ := hp
         have e0 : a.eval (.tmp 93) = .tuple #[.slice none 0 0, .bool false] := k1
         simp [Act.eval] at e0
         exact ⟨_, rfl, Does.val (by simp [execOp, Act.eval, e0, go_sem]) rfl⟩
        ·obtain ⟨k1, -⟩ := hp
         have e0 : a.eval (.tmp 93) = .tuple #[.slice none 0 0, .bool false] := k1
         simp [Act.eval] at e0
         exact ⟨_, rfl, Does.val (by simp [execOp, Act.eval, e0, go_sem]) rfl⟩
        ·obtain ⟨k1, -⟩ := hp
         exact ⟨_, rfl, op_as (s := SC _) rfl k1⟩
        ·obtain ⟨k1, -⟩ := hp
         exact ⟨_, rfl, op_as (s := SC _) rfl k1⟩
       ·intro val wx hB hsp hdis
        have hBo : Below w7.heap.size w7 wx := dB hW_18 hB
        have e10 : val 10 = .slice none 0 0 := hsp 10 (by omega)
        have e11 : val 11 = .bool false := hsp 11 (by omega)
        rw [← HF_.out]
        change wpList _ _ _ [] _ _
        simp only [puts_consT, puts_nilm, vals, List.map_cons, List.map_nil, Nat.zero_add, Nat.reduceAdd, e10, e11, List.setIfInBounds_toArray, List.set_cons_succ, List.set_cons_zero]
        clear hsp hdis HF_ hsz_ hB hW_18 e10 e11 ev0 ev8
        obtain ⟨w8, rfl⟩ : ∃ w8 : World, w8 = wx := ⟨_, rfl⟩
        have k5 := Lib.hid hBo
        have hx8_ := hx7.below hBo
        have hx88 := hx87.below hBo
        clear hBo hx7 hx87 HLK
        go_wp2_with fail
        go_upto_region 19 with fail
        generalize hW_19 : w8.drew = W_19
        refine gen_act ?_
        intro F_ hF_
        have ev0 : F_.eval (.tmp 0) = .pointer (some ⟨b, 0, none⟩) := by rw [← hF_]; rfl
        have ev8 : F_.eval (.tmp 8) = .pointer (some ⟨g8, 0, none⟩) := by rw [← hF_]; rfl
        have ev12 : F_.eval (.tmp 12) = .bool false := by rw [← hF_]; rfl
        have hsz_ : ∀ d ∈ ([(103, []), (104, [0]), (105, []), (106, [2]), (107, [3]), (108, [4]), (109, [1, 5]), (110, [6]), (111, [7]), (112, [8, 7]), (113, [7, 9])] : List (Nat × List Nat)).map (·.1), d < F_.tmps.size := by rw [← hF_]; simp
        have HF_ := Lib.hid hF_; clear hF_
        refine wp_flow_tabG true hW_19 11 [(103, []), (104, [0]), (105, []), (106, [2]), (107, [3]), (108, [4]), (109, [1, 5]), (110, [6]), (111, [7]), (112, [8, 7]), (113, [7, 9])] [SC (.pointer (some ⟨g8, 0, none⟩)), SC (.int .i64 p), SC (.pointer (some ⟨b, 0, none⟩)), SC (.pointer (some ⟨b, 0, none⟩)), SC (.pointer (some ⟨b, 4, none⟩)), SC (.int .i64 S1.del), SC (.bool true), SC (.bool true), SC (.bool false), SC (.bool true), SC (.bool true)] [false, false, false, false, false, false, false, false, false, false, false] (by kernel_rfl) (by kernel_rfl) (by kernel_rfl) (by kernel_rfl) (by kernel_rfl) hsz_ ⟨SC.mono _, SC.mono _, SC.mono _, SC.mono _, SC.mono _, SC.mono _, SC.mono _, SC.mono _, SC.mono _, SC.mono _, SC.mono _, trivial⟩ ?_ ?_
        ·intro kq hkq a wx hB hp hs
         have hBo : Below w8.heap.size w8 wx := dB hW_19 hB
         have hcase : kq = 0 ∨ kq = 1 ∨ kq = 2 ∨ kq = 3 ∨ kq = 4 ∨ kq = 5 ∨ kq = 6 ∨ kq = 7 ∨ kq = 8 ∨ kq = 9 ∨ kq = 10 := by omega
         rcases hcase with rfl | rfl | rfl | rfl | rfl | rfl | rfl | rfl | rfl | rfl | rfl
         ·clear hp
          exact ⟨_, rfl, .inl ⟨wanted_none rfl, fa_link_packet_0 rfl ((hs 8 rfl).trans ev8)⟩⟩
         ·obtain ⟨k1, -⟩ := hp
          exact ⟨_, rfl, .inl ⟨wanted_none rfl, ld_int rfl k1 (hx88.below hBo) rfl⟩⟩
         ·clear hp
          exact ⟨_, rfl, .inl ⟨wanted_none rfl, op_mv (s := SC _) rfl ((hs 0 rfl).trans ev0)⟩⟩
         ·obtain ⟨k1, -⟩ := hp
          exact ⟨_, rfl, .inl ⟨wanted_none rfl, op_nil rfl k1⟩⟩
         ·obtain ⟨k1, -⟩ := hp
          exact ⟨_, rfl, .inl ⟨wanted_none rfl, fa_link_End_4 rfl k1⟩⟩
         ·obtain ⟨k1, -⟩ := hp
          exact ⟨_, rfl, .inl ⟨wanted_none rfl, ld_int rfl k1 (hx8_.below hBo) rfl⟩⟩
         ·obtain ⟨k1, k2, -⟩ := hp
          have e0 : a.eval (.tmp 104) = .int .i64 p := k1
          simp [Act.eval] at e0
          have e1 : a.eval (.tmp 108) = .int .i64 S1.del := k2
          simp [Act.eval] at e1
          exact ⟨_, rfl, .inl ⟨wanted_none rfl, Does.val (by simp [execOp, Act.eval, e0, e1, go_sem, hpd]) rfl⟩⟩
         ·obtain ⟨k1, -⟩ := hp
          exact ⟨_, rfl, .inl ⟨wanted_none rfl, op_mv (s := SC _) rfl k1⟩⟩
         ·obtain ⟨k1, -⟩ := hp
          have hgd : a.eval (.tmp 110) = .bool true := k1
          exact ⟨_, rfl, .inl ⟨(wanted_of rfl rfl hgd).trans rfl, op_mv (s := SC _) rfl ((hs 12 rfl).trans ev12)⟩⟩
         ·obtain ⟨k1, k2, -⟩ := hp
          have hgd : a.eval (.tmp 110) = .bool true := k2
          have e0 : a.eval (.tmp 111) = .bool false := k1
          simp [Act.eval] at e0
          exact ⟨_, rfl, .inl ⟨(wanted_of rfl rfl hgd).trans rfl, Does.val (by simp [execOp, Act.eval, e0, go_sem]) rfl⟩⟩
         ·obtain ⟨k1, k2, -⟩ := hp
          have e0 : a.eval (.tmp 110) = .bool true := k1
          simp [Act.eval] at e0
          have e1 : a.eval (.tmp 112) = .bool true := k2
          simp [Act.eval] at e1
          exact ⟨_, rfl, .inl ⟨wanted_none rfl, Does.val (by simp [execOp, Act.eval, e0, e1, go_sem]) rfl⟩⟩
        ·intro val wx hB hsp hdis
         have hBo : Below w8.heap.size w8 wx := dB hW_19 hB
         have e10 : val 10 = .bool true := hsp 10 (by omega)
         rw [← HF_.out]
         change wpList _ _ _ [] _ _
         simp only [puts_consT, puts_nilm, vals, List.map_cons, List.map_nil, Nat.zero_add, Nat.reduceAdd, e10, List.setIfInBounds_toArray, List.set_cons_succ, List.set_cons_zero]
         clear hsp hdis HF_ hsz_ hB hW_19 e10 ev0 ev8 ev12
         obtain ⟨w9, rfl⟩ : ∃ w9 : World, w9 = wx := ⟨_, rfl⟩
         have k3 := Lib.hid (Blw k5.out hBo)
         have hx9 := hx8_.below hBo
         have hx89 := hx88.below hBo
         clear hBo hx8_ hx88 hpd k5
         have hs9 := Lib.hid (show s.length ≤ 140737488355328 by have := HN2.out; omega)
         have HBV9 := Lib.hid (HBV7.out.below k3.out)
         have HM9 := Lib.hid (map_tc HM7.out (Tc.of k3.out) (R := []) (by simp))
         have HO9 := Lib.hid (own_below HO7.out k3.out)
         have HV9 := Lib.hid (HV7.out.kb (.of k3.out))
         have HH9 := Lib.hid (HH7.out.kb (.of k3.out))
         have HT9 := Lib.hid ((TT.rel own).trans HT7.out ⟨Tc.of k3.out, KB.of k3.out⟩)
         clear HM7 HO7 HV7 HH7 HBV7 HT7 HE7
         go_wp2_with fail
         go_upto_region 20 with fail
         generalize hW_20 : w9.drew = W_20
         refine gen_act ?_
         intro F_ hF_
         have ev0 : F_.eval (.tmp 0) = .pointer (some ⟨b, 0, none⟩) := by rw [← hF_]; rfl
         have ev8 : F_.eval (.tmp 8) = .pointer (some ⟨g8, 0, none⟩) := by rw [← hF_]; rfl
         have hsz_ : ∀ d ∈ ([(114, []), (115, [0]), (116, [1]), (117, [2]), (118, []), (119, [4]), (120, []), (121, [6]), (122, [7])] : List (Nat × List Nat)).map (·.1), d < F_.tmps.size := by rw [← hF_]; simp
         have HF_ := Lib.hid hF_; clear hF_
         refine wp_flow_tab true hW_20 9 [(114, []), (115, [0]), (116, [1]), (117, [2]), (118, []), (119, [4]), (120, []), (121, [6]), (122, [7])] [SC (.pointer (some ⟨b, 0, none⟩)), SC (.pointer (some ⟨b, 0, none⟩)), SC (.pointer (some ⟨b, 5, none⟩)), SC (.map (some bm7)), SC (.pointer (some ⟨g8, 0, none⟩)), SC (.int .i64 p), SC (.pointer (some ⟨g8, 2, none⟩)), SC (.slice A2 n2 c2), SY s] [false, false, false, false, false, false, false, false, false] (by kernel_rfl) (by kernel_rfl) (by kernel_rfl) (by kernel_rfl) (by kernel_rfl) hsz_ ⟨SC.mono _, SC.mono _, SC.mono _, SC.mono _, SC.mono _, SC.mono _, SC.mono _, SC.mono _, SY.mono _, trivial⟩ ?_ ?_
         ·intro kq hkq a wx hB hp hs
          have hBo : Below w9.heap.size w9 wx := dB hW_20 hB
          have hcase : kq = 0 ∨ kq = 1 ∨ kq = 2 ∨ kq = 3 ∨ kq = 4 ∨ kq = 5 ∨ kq = 6 ∨ kq = 7 ∨ kq = 8 := by omega
          rcases hcase with rfl | rfl | rfl | rfl | rfl | rfl | rfl | rfl | rfl
          ·clear hp
           exact ⟨_, rfl, op_mv (s := SC _) rfl ((hs 0 rfl).trans ev0)⟩
          ·obtain ⟨k1, -⟩ := hp
           exact ⟨_, rfl, op_nil rfl k1⟩
          ·obtain ⟨k1, -⟩ := hp
           exact ⟨_, rfl, fa_link_End_5 rfl k1⟩
          ·obtain ⟨k1, -⟩ := hp
           exact ⟨_, rfl, ld_map_int___uint8 rfl k1 (hx9.below hBo) rfl⟩
          ·clear hp
           exact ⟨_, rfl, fa_link_packet_0 rfl ((hs 8 rfl).trans ev8)⟩
          ·obtain ⟨k1, -⟩ := hp
           exact ⟨_, rfl, ld_int rfl k1 (hx89.below hBo) rfl⟩
          ·clear hp
           exact ⟨_, rfl, fa_link_packet_2 rfl ((hs 8 rfl).trans ev8)⟩
          ·obtain ⟨k1, -⟩ := hp
           exact ⟨_, rfl, ld___uint8 rfl k1 (hx89.below hBo) rfl⟩
          ·obtain ⟨k1, -⟩ := hp
           exact ⟨_, rfl, Does.ry (f := 32) (call1 rfl (fun _ => by simp [go_sem]) k1) (clone_bv (HBV9.out.below hBo) hs9.out)⟩
         ·intro val wx hB hsp hdis
          have hBo : Below w9.heap.size w9 wx := dB hW_20 hB
          have e3 : val 3 = .map (some bm7) := hsp 3 (by omega)
          have e5 : val 5 = .int .i64 p := hsp 5 (by omega)
          obtain ⟨u8, e8⟩ : ∃ v, val 8 = v := ⟨_, rfl⟩
          have h8 := hsp 8 (by omega)
          rw [e8] at h8
          change (SY s) _ u8 at h8
          rw [← HF_.out]
          change wpList _ _ _ [_] _ _
          simp only [puts_consT, puts_nilm, vals, List.map_cons, List.map_nil, Nat.zero_add, Nat.reduceAdd, e3, e5, e8, List.setIfInBounds_toArray, List.set_cons_succ, List.set_cons_zero]
          clear hsp hdis HF_ hsz_ hB hW_20 e3 e5 e8 ev0 ev8
          obtain ⟨w10, rfl⟩ : ∃ w10 : World, w10 = wx := ⟨_, rfl⟩
          have k7 := Lib.hid hBo
          have HV8 := Lib.hid h8
          obtain ⟨A9, c9, rfl, -⟩ := h8
          have HM10 := Lib.hid (map_tc HM9.out (Tc.of k7.out) (R := []) (by simp))
          have hx10 := hx9.below k7.out
          clear hBo hx9 hx89
          go_wp2_with (at_mapUpdate; refine wpList_mapUpdate_own _ rfl _ _ _ 63 rfl 3 33 law_int Try.underlying63 RV bm7 S1.cnt D7 rfl HM10.out (by unfold maxLen; omega) _ _ (.int .i64 p) rfl rfl (hkey64 hp64) (.held _) [] rfl ?_)
          intro w11 hm11 hg11
          have hE11 := in_put hx10 (own_below HO9.out k7.out) (HV9.out.kb (.of k7.out)) HM10.out (HH9.out.kb (.of k7.out)) hp64 HV8.out hm11 hg11
          have HR11 := Lib.hid (in_deliver (p := p) (s := s) ((TT.rel own).trans HT9.out ⟨Tc.of k7.out, KB.of k7.out⟩) HW7.out hE11 (K.put_yes hpp HF.out) hd3 hd4 (by show S1.cnt + 1 ≤ _; omega))
          clear hm11 hg11 hE11 hx10
          go_wp2_with fail
          refine HR11.out.mono ?_
          rintro e w12 ⟨v12, rfl, HR12⟩
          go_wp2
          go_ret2
          rw [HIN2.out]
          exact HR12
      ·obtain ⟨hyes, v0, ha0, hbv0⟩ := hh.2 l7 hf
       have HLK := Lib.hid (fun (wx : World) (hB : Below w7.heap.size w7 wx) => look_some (map_tc HM7.out (Tc.of hB) (R := []) (by simp)) hp64 hyes ha0)
       have HF := Lib.hid (show ¬ (S1.del < p ∧ S1.held p = none) from fun h => by rw [hf] at h; cases h.2)
       obtain ⟨A9, n9, c9, rfl⟩ : ∃ A n c, v0 = .slice A n c := by obtain ⟨A, c, h, _⟩ := hbv0; exact ⟨_, _, _, h⟩
       clear hh hf hyes ha0 hbv0
       go_wp2_with fail
       go_upto_region 18 with fail
       generalize hW_18 : w7.drew = W_18
       refine gen_act ?_
       intro F_ hF_
       have ev0 : F_.eval (.tmp 0) = .pointer (some ⟨b, 0, none⟩) := by rw [← hF_]; rfl
       have ev8 : F_.eval (.tmp 8) = .pointer (some ⟨g8, 0, none⟩) := by rw [← hF_]; rfl
       have hsz_ : ∀ d ∈ ([(94, []), (95, [0]), (96, [1]), (97, [2]), (98, []), (99, [4]), (100, [3, 5]), (93, [6]), (101, [7]), (102, [7]), (11, [8]), (12, [9])] : List (Nat × List Nat)).map (·.1), d < F_.tmps.size := by rw [← hF_]; simp
       have HF_ := Lib.hid hF_; clear hF_
       refine wp_flow_tab true hW_18 12 [(94, []), (95, [0]), (96, [1]), (97, [2]), (98, []), (99, [4]), (100, [3, 5]), (93, [6]), (101, [7]), (102, [7]), (11, [8]), (12, [9])] [SC (.pointer (some ⟨b, 0, none⟩)), SC (.pointer (some ⟨b, 0, none⟩)), SC (.pointer (some ⟨b, 5, none⟩)), SC (.map (some bm7)), SC (.pointer (some ⟨g8, 0, none⟩)), SC (.int .i64 p), SC (.tuple #[.slice A9 n9 c9, .bool true]), SC (.tuple #[.slice A9 n9 c9, .bool true]), SC (.slice A9 n9 c9), SC (.bool true), SC (.slice A9 n9 c9), SC (.bool true)] [false, false, false, false, false, false, false, false, false, false, false, false] (by kernel_rfl) (by kernel_rfl) (by kernel_rfl) (by kernel_rfl) (by kernel_rfl) hsz_ ⟨SC.mono _, SC.mono _, SC.mono _, SC.mono _, SC.mono _, SC.mono _, SC.mono _, SC.mono _, SC.mono _, SC.mono _, SC.mono _, SC.mono _, trivial⟩ ?_ ?_
       ·intro kq hkq a wx hB hp hs
        have hBo : Below w7.heap.size w7 wx := dB hW_18 hB
        have hcase : kq = 0 ∨ kq = 1 ∨ kq = 2 ∨ kq = 3 ∨ kq = 4 ∨ kq = 5 ∨ kq = 6 ∨ kq = 7 ∨ kq = 8 ∨ kq = 9 ∨ kq = 10 ∨ kq = 11 := by omega
        rcases hcase with rfl | rfl | rfl | rfl | rfl | rfl | rfl | rfl | rfl | rfl | rfl | rfl
        ·clear hp
         exact ⟨_, rfl, op_mv (s := SC _) rfl ((hs 0 rfl).trans ev0)⟩
        ·obtain ⟨k1, -⟩ := hp
         exact ⟨_, rfl, op_nil rfl k1⟩
        ·obtain ⟨k1, -⟩ := hp
         exact ⟨_, rfl, fa_link_End_5 rfl k1⟩
        ·obtain ⟨k1, -⟩ := hp
         exact ⟨_, rfl, ld_map_int___uint8 rfl k1 (hx7.below hBo) rfl⟩
        ·clear hp
         exact ⟨_, rfl, fa_link_packet_0 rfl ((hs 8 rfl).trans ev8)⟩
        ·obtain ⟨k1, -⟩ := hp
         exact ⟨_, rfl, ld_int rfl k1 (hx87.below hBo) rfl⟩
        ·obtain ⟨k1, k2, -⟩ := hp
         have e0 : a.eval (.tmp 97) = .map (some bm7) := k1
         simp [Act.eval] at e0
         have e1 : a.eval (.tmp 99) = .int .i64 p := k2
         simp [Act.eval] at e1
         exact ⟨_, rfl, Does.val (by simp [execOp, Act.eval, e0, e1, go_sem, HLK.out wx hBo]) rfl⟩
        ·obtain ⟨k1, -⟩ := hp
         exact ⟨_, rfl, op_mv (s := SC _) rfl k1⟩
        ·obtain ⟨k1, -⟩ := hp
         have e0 : a.eval (.tmp 93) = .tuple #[.slice A9 n9 c9, .bool true] := k1
         simp [Act.eval] at e0
         exact ⟨_, rfl, Does.val (by simp [execOp, Act.eval, e0, go_sem]) rfl⟩
        ·obtain ⟨k1, -⟩ := hp
         have e0 : a.eval (.tmp 93) = .tuple #[.slice A9 n9 c9, .bool true] := k1
         simp [Act.eval] at e0
         exact ⟨_, rfl, Does.val (by simp [execOp, Act.eval, e0, go_sem]) rfl⟩
        ·obtain ⟨k1, -⟩ := hp
         exact ⟨_, rfl, op_as (s := SC _) rfl k1⟩
        ·obtain ⟨k1, -⟩ := hp
         exact ⟨_, rfl, op_as (s := SC _) rfl k1⟩
       ·intro val wx hB hsp hdis
        have hBo : Below w7.heap.size w7 wx := dB hW_18 hB
        have e10 : val 10 = .slice A9 n9 c9 := hsp 10 (by omega)
        have e11 : val 11 = .bool true := hsp 11 (by omega)
        rw [← HF_.out]
        change wpList _ _ _ [] _ _
        simp only [puts_consT, puts_nilm, vals, List.map_cons, List.map_nil, Nat.zero_add, Nat.reduceAdd, e10, e11, List.setIfInBounds_toArray, List.set_cons_succ, List.set_cons_zero]
        clear hsp hdis HF_ hsz_ hB hW_18 e10 e11 ev0 ev8
        obtain ⟨w8, rfl⟩ : ∃ w8 : World, w8 = wx := ⟨_, rfl⟩
        have k5 := Lib.hid hBo
        have hx8_ := hx7.below hBo
        have hx88 := hx87.below hBo
        clear hBo hx7 hx87 HLK
        go_wp2_with fail
        go_upto_region 19 with fail
        generalize hW_19 : w8.drew = W_19
        refine gen_act ?_
        intro F_ hF_
        have ev0 : F_.eval (.tmp 0) = .pointer (some ⟨b, 0, none⟩) := by rw [← hF_]; rfl
        have ev8 : F_.eval (.tmp 8) = .pointer (some ⟨g8, 0, none⟩) := by rw [← hF_]; rfl
        have ev12 : F_.eval (.tmp 12) = .bool true := by rw [← hF_]; rfl
        have hsz_ : ∀ d ∈ ([(103, []), (104, [0]), (105, []), (106, [2]), (107, [3]), (108, [4]), (109, [1, 5]), (110, [6]), (111, [7]), (112, [8, 7]), (113, [7, 9])] : List (Nat × List Nat)).map (·.1), d < F_.tmps.size := by rw [← hF_]; simp
        have HF_ := Lib.hid hF_; clear hF_
        refine wp_flow_tabG true hW_19 11 [(103, []), (104, [0]), (105, []), (106, [2]), (107, [3]), (108, [4]), (109, [1, 5]), (110, [6]), (111, [7]), (112, [8, 7]), (113, [7, 9])] [SC (.pointer (some ⟨g8, 0, none⟩)), SC (.int .i64 p), SC (.pointer (some ⟨b, 0, none⟩)), SC (.pointer (some ⟨b, 0, none⟩)), SC (.pointer (some ⟨b, 4, none⟩)), SC (.int .i64 S1.del), SC (.bool true), SC (.bool true), SC (.bool true), SC (.bool false), SC (.bool false)] [false, false, false, false, false, false, false, false, false, false, false] (by kernel_rfl) (by kernel_rfl) (by kernel_rfl) (by kernel_rfl) (by kernel_rfl) hsz_ ⟨SC.mono _, SC.mono _, SC.mono _, SC.mono _, SC.mono _, SC.mono _, SC.mono _, SC.mono _, SC.mono _, SC.mono _, SC.mono _, trivial⟩ ?_ ?_
        ·intro kq hkq a wx hB hp hs
         have hBo : Below w8.heap.size w8 wx := dB hW_19 hB
         have hcase : kq = 0 ∨ kq = 1 ∨ kq = 2 ∨ kq = 3 ∨ kq = 4 ∨ kq = 5 ∨ kq = 6 ∨ kq = 7 ∨ kq = 8 ∨ kq = 9 ∨ kq = 10 := by omega
         rcases hcase with rfl | rfl | rfl | rfl | rfl | rfl | rfl | rfl | rfl | rfl | rfl
         ·clear hp
          exact ⟨_, rfl, .inl ⟨wanted_none rfl, fa_link_packet_0 rfl ((hs 8 rfl).trans ev8)⟩⟩
         ·obtain ⟨k1, -⟩ := hp
          exact ⟨_, rfl, .inl ⟨wanted_none rfl, ld_int rfl k1 (hx88.below hBo) rfl⟩⟩
         ·clear hp
          exact ⟨_, rfl, .inl ⟨wanted_none rfl, op_mv (s := SC _) rfl ((hs 0 rfl).trans ev0)⟩⟩
         ·obtain ⟨k1, -⟩ := hp
          exact ⟨_, rfl, .inl ⟨wanted_none rfl, op_nil rfl k1⟩⟩
         ·obtain ⟨k1, -⟩ := hp
          exact ⟨_, rfl, .inl ⟨wanted_none rfl, fa_link_End_4 rfl k1⟩⟩
         ·obtain ⟨k1, -⟩ := hp
          exact ⟨_, rfl, .inl ⟨wanted_none rfl, ld_int rfl k1 (hx8_.below hBo) rfl⟩⟩
         ·obtain ⟨k1, k2, -⟩ := hp
          have e0 : a.eval (.tmp 104) = .int .i64 p := k1
          simp [Act.eval] at e0
          have e1 : a.eval (.tmp 108) = .int .i64 S1.del := k2
          simp [Act.eval] at e1
          exact ⟨_, rfl, .inl ⟨wanted_none rfl, Does.val (by simp [execOp, Act.eval, e0, e1, go_sem, hpd]) rfl⟩⟩
         ·obtain ⟨k1, -⟩ := hp
          exact ⟨_, rfl, .inl ⟨wanted_none rfl, op_mv (s := SC _) rfl k1⟩⟩
         ·obtain ⟨k1, -⟩ := hp
          have hgd : a.eval (.tmp 110) = .bool true := k1
          exact ⟨_, rfl, .inl ⟨(wanted_of rfl rfl hgd).trans rfl, op_mv (s := SC _) rfl ((hs 12 rfl).trans ev12)⟩⟩
         ·obtain ⟨k1, k2, -⟩ := hp
          have hgd : a.eval (.tmp 110) = .bool true := k2
          have e0 : a.eval (.tmp 111) = .bool true := k1
          simp [Act.eval] at e0
          exact ⟨_, rfl, .inl ⟨(wanted_of rfl rfl hgd).trans rfl, Does.val (by simp [execOp, Act.eval, e0, go_sem]) rfl⟩⟩
         ·obtain ⟨k1, k2, -⟩ := hp
          have e0 : a.eval (.tmp 110) = .bool true := k1
          simp [Act.eval] at e0
          have e1 : a.eval (.tmp 112) = .bool false := k2
          simp [Act.eval] at e1
          exact ⟨_, rfl, .inl ⟨wanted_none rfl, Does.val (by simp [execOp, Act.eval, e0, e1, go_sem]) rfl⟩⟩
        ·intro val wx hB hsp hdis
         have hBo : Below w8.heap.size w8 wx := dB hW_19 hB
         have e10 : val 10 = .bool false := hsp 10 (by omega)
         rw [← HF_.out]
         change wpList _ _ _ [] _ _
         simp only [puts_consT, puts_nilm, vals, List.map_cons, List.map_nil, Nat.zero_add, Nat.reduceAdd, e10, List.setIfInBounds_toArray, List.set_cons_succ, List.set_cons_zero]
         clear hsp hdis HF_ hsz_ hB hW_19 e10 ev0 ev8 ev12
         obtain ⟨w9, rfl⟩ : ∃ w9 : World, w9 = wx := ⟨_, rfl⟩
         have k3 := Lib.hid (Blw k5.out hBo)
         have hx9 := hx8_.below hBo
         have hx89 := hx88.below hBo
         clear hBo hx8_ hx88 hpd k5
         have HR11 := Lib.hid (in_deliver2 (p := p) (s := s) ((TT.rel own).trans HT7.out ⟨Tc.of k3.out, KB.of k3.out⟩) (HE7.out.below k3.out) (K.put_no HF.out) hd3 hd4 (by show S1.cnt ≤ _; omega))
         go_wp2_with fail
         refine HR11.out.mono ?_
         rintro e w12 ⟨v12, rfl, HR12⟩
         go_wp2
         go_ret2
         rw [HIN2.out]
         exact HR12
     ·have hpd := decide_eq_false hpp
      obtain ⟨v0, g0, HLK0⟩ := look_any hp64 HM7.out
      have HLK := Lib.hid (fun (wx : World) (hB : Below w7.heap.size w7 wx) => HLK0 wx (map_tc HM7.out (Tc.of hB) (R := []) (by simp)))
      have HF := Lib.hid (show ¬ (S1.del < p ∧ S1.held p = none) from fun h => hpp h.1)
      clear hh HLK0
      go_wp2_with fail
      go_upto_region 18 with fail
      generalize hW_18 : w7.drew = W_18
      refine gen_act ?_
      intro F_ hF_
      have ev0 : F_.eval (.tmp 0) = .pointer (some ⟨b, 0, none⟩) := by rw [← hF_]; rfl
      have ev8 : F_.eval (.tmp 8) = .pointer (some ⟨g8, 0, none⟩) := by rw [← hF_]; rfl
      have hsz_ : ∀ d ∈ ([(94, []), (95, [0]), (96, [1]), (97, [2]), (98, []), (99, [4]), (100, [3, 5]), (93, [6]), (101, [7]), (102, [7]), (11, [8]), (12, [9])] : List (Nat × List Nat)).map (·.1), d < F_.tmps.size := by rw [← hF_]; simp
      have HF_ := Lib.hid hF_; clear hF_
      refine wp_flow_tab true hW_18 12 [(94, []), (95, [0]), (96, [1]), (97, [2]), (98, []), (99, [4]), (100, [3, 5]), (93, [6]), (101, [7]), (102, [7]), (11, [8]), (12, [9])] [SC (.pointer (some ⟨b, 0, none⟩)), SC (.pointer (some ⟨b, 0, none⟩)), SC (.pointer (some ⟨b, 5, none⟩)), SC (.map (some bm7)), SC (.pointer (some ⟨g8, 0, none⟩)), SC (.int .i64 p), SC (.tuple #[v0, .bool g0]), SC (.tuple #[v0, .bool g0]), SC (v0), SC (.bool g0), SC (v0), SC (.bool g0)] [false, false, false, false, false, false, false, false, false, false, false, false] (by kernel_rfl) (by kernel_rfl) (by kernel_rfl) (by kernel_rfl) (by kernel_rfl) hsz_ ⟨SC.mono _, SC.mono _, SC.mono _, SC.mono _, SC.mono _, SC.mono _, SC.mono _, SC.mono _, SC.mono _, SC.mono _, SC.mono _, SC.mono _, trivial⟩ ?_ ?_
      ·intro kq hkq a wx hB hp hs
       have hBo : Below w7.heap.size w7 wx := dB hW_18 hB
       have hcase : kq = 0 ∨ kq = 1 ∨ kq = 2 ∨ kq = 3 ∨ kq = 4 ∨ kq = 5 ∨ kq = 6 ∨ kq = 7 ∨ kq = 8 ∨ kq = 9 ∨ kq = 10 ∨ kq = 11 := by omega
       rcases hcase with rfl | rfl | rfl | rfl | rfl | rfl | rfl | rfl | rfl | rfl | rfl | rfl
       ·clear hp
        exact ⟨_, rfl, op_mv (s := SC _) rfl ((hs 0 rfl).trans ev0)⟩
       ·obtain ⟨k1, -⟩ := hp
        exact ⟨_, rfl, op_nil rfl k1⟩
       ·obtain ⟨k1, -⟩ := hp
        exact ⟨_, rfl, fa_link_End_5 rfl k1⟩
       ·obtain ⟨k1, -⟩ := hp
        exact ⟨_, rfl, ld_map_int___uint8 rfl k1 (hx7.below hBo) rfl⟩
       ·clear hp
        exact ⟨_, rfl, fa_link_packet_0 rfl ((hs 8 rfl).trans ev8)⟩
       ·obtain ⟨k1, -⟩ := hp
        exact ⟨_, rfl, ld_int rfl k1 (hx87.below hBo) rfl⟩
       ·obtain ⟨k1, k2, -⟩ := hp
        have e0 : a.eval (.tmp 97) = .map (some bm7) := k1
        simp [Act.eval] at e0
        have e1 : a.eval (.tmp 99) = .int .i64 p := k2
        simp [Act.eval] at e1
        exact ⟨_, rfl, Does.val (by simp [execOp, Act.eval, e0, e1, go_sem, HLK.out wx hBo]) rfl⟩
       ·obtain ⟨k1, -⟩ := hp
        exact ⟨_, rfl, op_mv (s := SC _) rfl k1⟩
       ·obtain ⟨k1, -⟩ := hp
        have e0 : a.eval (.tmp 93) = .tuple #[v0, .bool g0] := k1
        simp [Act.eval] at e0
        exact ⟨_, rfl, Does.val (by simp [execOp, Act.eval, e0, go_sem]) rfl⟩
       ·obtain ⟨k1, -⟩ := hp
        have e0 : a.eval (.tmp 93) = .tuple #[v0, .bool g0] := k1
        simp [Act.eval] at e0
        exact ⟨_, rfl, Does.val (by simp [execOp, Act.eval, e0, go_sem]) rfl⟩
       ·obtain ⟨k1, -⟩ := hp
        exact ⟨_, rfl, op_as (s := SC _) rfl k1⟩
       ·obtain ⟨k1, -⟩ := hp
        exact ⟨_, rfl, op_as (s := SC _) rfl k1⟩
      ·intro val wx hB hsp hdis
       have hBo : Below w7.heap.size w7 wx := dB hW_18 hB
       have e10 : val 10 = v0 := hsp 10 (by omega)
       have e11 : val 11 = .bool g0 := hsp 11 (by omega)
       rw [← HF_.out]
       change wpList _ _ _ [] _ _
       simp only [puts_consT, puts_nilm, vals, List.map_cons, List.map_nil, Nat.zero_add, Nat.reduceAdd, e10, e11, List.setIfInBounds_toArray, List.set_cons_succ, List.set_cons_zero]
       clear hsp hdis HF_ hsz_ hB hW_18 e10 e11 ev0 ev8
       obtain ⟨w8, rfl⟩ : ∃ w8 : World, w8 = wx := ⟨_, rfl⟩
       have k5 := Lib.hid hBo
       have hx8_ := hx7.below hBo
       have hx88 := hx87.below hBo
       clear hBo hx7 hx87 HLK
       go_wp2_with fail
       go_upto_region 19 with fail
       generalize hW_19 : w8.drew = W_19
       refine gen_act ?_
       intro F_ hF_
       have ev0 : F_.eval (.tmp 0) = .pointer (some ⟨b, 0, none⟩) := by rw [← hF_]; rfl
       have ev8 : F_.eval (.tmp 8) = .pointer (some ⟨g8, 0, none⟩) := by rw [← hF_]; rfl
       have ev12 : F_.eval (.tmp 12) = .bool g0 := by rw [← hF_]; rfl
       have hsz_ : ∀ d ∈ ([(103, []), (104, [0]), (105, []), (106, [2]), (107, [3]), (108, [4]), (109, [1, 5]), (110, [6]), (111, [7]), (112, [8, 7]), (113, [7, 9])] : List (Nat × List Nat)).map (·.1), d < F_.tmps.size := by rw [← hF_]; simp
       have HF_ := Lib.hid hF_; clear hF_
       refine wp_flow_tabG true hW_19 11 [(103, []), (104, [0]), (105, []), (106, [2]), (107, [3]), (108, [4]), (109, [1, 5]), (110, [6]), (111, [7]), (112, [8, 7]), (113, [7, 9])] [SC (.pointer (some ⟨g8, 0, none⟩)), SC (.int .i64 p), SC (.pointer (some ⟨b, 0, none⟩)), SC (.pointer (some ⟨b, 0, none⟩)), SC (.pointer (some ⟨b, 4, none⟩)), SC (.int .i64 S1.del), SC (.bool false), SC (.bool false), SC undef, SC undef, SC (.bool false)] [false, false, false, false, false, false, false, false, false, false, false] (by kernel_rfl) (by kernel_rfl) (by kernel_rfl) (by kernel_rfl) (by kernel_rfl) hsz_ ⟨SC.mono _, SC.mono _, SC.mono _, SC.mono _, SC.mono _, SC.mono _, SC.mono _, SC.mono _, SC.mono _, SC.mono _, SC.mono _, trivial⟩ ?_ ?_
       ·intro kq hkq a wx hB hp hs
        have hBo : Below w8.heap.size w8 wx := dB hW_19 hB
        have hcase : kq = 0 ∨ kq = 1 ∨ kq = 2 ∨ kq = 3 ∨ kq = 4 ∨ kq = 5 ∨ kq = 6 ∨ kq = 7 ∨ kq = 8 ∨ kq = 9 ∨ kq = 10 := by omega
        rcases hcase with rfl | rfl | rfl | rfl | rfl | rfl | rfl | rfl | rfl | rfl | rfl
        ·clear hp
         exact ⟨_, rfl, .inl ⟨wanted_none rfl, fa_link_packet_0 rfl ((hs 8 rfl).trans ev8)⟩⟩
        ·obtain ⟨k1, -⟩ := hp
         exact ⟨_, rfl, .inl ⟨wanted_none rfl, ld_int rfl k1 (hx88.below hBo) rfl⟩⟩
        ·clear hp
         exact ⟨_, rfl, .inl ⟨wanted_none rfl, op_mv (s := SC _) rfl ((hs 0 rfl).trans ev0)⟩⟩
        ·obtain ⟨k1, -⟩ := hp
         exact ⟨_, rfl, .inl ⟨wanted_none rfl, op_nil rfl k1⟩⟩
        ·obtain ⟨k1, -⟩ := hp
         exact ⟨_, rfl, .inl ⟨wanted_none rfl, fa_link_End_4 rfl k1⟩⟩
        ·obtain ⟨k1, -⟩ := hp
         exact ⟨_, rfl, .inl ⟨wanted_none rfl, ld_int rfl k1 (hx8_.below hBo) rfl⟩⟩
        ·obtain ⟨k1, k2, -⟩ := hp
         have e0 : a.eval (.tmp 104) = .int .i64 p := k1
         simp [Act.eval] at e0
         have e1 : a.eval (.tmp 108) = .int .i64 S1.del := k2
         simp [Act.eval] at e1
         exact ⟨_, rfl, .inl ⟨wanted_none rfl, Does.val (by simp [execOp, Act.eval, e0, e1, go_sem, hpd]) rfl⟩⟩
        ·obtain ⟨k1, -⟩ := hp
         exact ⟨_, rfl, .inl ⟨wanted_none rfl, op_mv (s := SC _) rfl k1⟩⟩
        ·obtain ⟨k1, -⟩ := hp
         have hgd : a.eval (.tmp 110) = .bool false := k1
         exact ⟨_, rfl, .inr ⟨(wanted_of rfl rfl hgd).trans rfl, rfl, rfl⟩⟩
        ·obtain ⟨k1, k2, -⟩ := hp
         have hgd : a.eval (.tmp 110) = .bool false := k2
         exact ⟨_, rfl, .inr ⟨(wanted_of rfl rfl hgd).trans rfl, rfl, rfl⟩⟩
        ·obtain ⟨k1, k2, -⟩ := hp
         have e0 : a.eval (.tmp 110) = .bool false := k1
         simp [Act.eval] at e0
         have e1 : a.eval (.tmp 112) = undef := k2
         simp [Act.eval] at e1
         exact ⟨_, rfl, .inl ⟨wanted_none rfl, Does.val (by simp [execOp, Act.eval, e0, e1, go_sem]) rfl⟩⟩
       ·intro val wx hB hsp hdis
        have hBo : Below w8.heap.size w8 wx := dB hW_19 hB
        have e10 : val 10 = .bool false := hsp 10 (by omega)
        rw [← HF_.out]
        change wpList _ _ _ [] _ _
        simp only [puts_consT, puts_nilm, vals, List.map_cons, List.map_nil, Nat.zero_add, Nat.reduceAdd, e10, List.setIfInBounds_toArray, List.set_cons_succ, List.set_cons_zero]
        clear hsp hdis HF_ hsz_ hB hW_19 e10 ev0 ev8 ev12
        obtain ⟨w9, rfl⟩ : ∃ w9 : World, w9 = wx := ⟨_, rfl⟩
        have k3 := Lib.hid (Blw k5.out hBo)
        have hx9 := hx8_.below hBo
        have hx89 := hx88.below hBo
        clear hBo hx8_ hx88 hpd k5
        have HR11 := Lib.hid (in_deliver2 (p := p) (s := s) ((TT.rel own).trans HT7.out ⟨Tc.of k3.out, KB.of k3.out⟩) (HE7.out.below k3.out) (K.put_no HF.out) hd3 hd4 (by show S1.cnt ≤ _; omega))
        go_wp2_with fail
        refine HR11.out.mono ?_
        rintro e w12 ⟨v12, rfl, HR12⟩
        go_wp2
        go_ret2
        rw [HIN2.out]
        exact HR12
end Go.Proofs.Ytgdibcgphjmofaa
