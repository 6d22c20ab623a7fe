/-
 THE WALK of the reference's In, where there is a packet.
-/
import Derived.Test.YtgdibcgphjmofaaRunF
namespace Go.Proofs.Ytgdibcgphjmofaa
set_option maxHeartbeats 4000000
open Go.RowKit
open Go.Maps
set_option linter.unusedVariables false
theorem find_ret {b : Nat} {own : List Nat} {R : Rn.E} {s : Int} {w : World} (h : REnd w b own R) (hn : R.held.length ≤ 1000000000) : Calls Try.prog 40 #[.pointer (some ⟨b, 0, none⟩), .int .i64 s] w fun e w' => e = .returned (.int .i64 (Rn.find R.held s)) ∧ Below w.heap.size w w' :=
 (find_any b own R s w h hn).mono fun e w' ⟨h1, h2⟩ => ⟨h1, by subst h2; exact Below.refl _ _⟩
theorem Bx.inj {w : World} {g T : Nat} {l l' : List Value} (h : Bx w g T l) (h' : Bx w g T l') : l = l' := by
 unfold Bx at h h'
 rw [h] at h'
 injection h' with e
 injection e with e _ _
 simpa using congrArg Array.toList e
theorem own_tcR {B : Nat} {w w' : World} {R : List Nat} {v : Value} {e s n : Nat} {xs : List Value} (h : w.ownsRow B e s v n xs) (t : Tc R w w') (hne : ∀ k, v.ownBlock = some k → k ∉ R) : w'.ownsRow B e s v n xs := by
 have hl := h.lt
 refine ⟨h.1, ?_⟩
 rcases h.2 with h | ⟨g, cap, cur, rfl, hb, hgg, r⟩
 ·exact .inl h
 ·exact .inr ⟨g, cap, cur, rfl, hb, (t.block g (hl g rfl).2 (hne g rfl)).trans hgg, r⟩
theorem held_drop {w : World} {gh n c : Nat} {hs : List (Int × List UInt8)} {vs : List Value} (h : w.ownsRow 0 78 2 (.slice (some ⟨gh, 0, none⟩) n c) n (Rn.hc hs vs)) (k : Nat) : ∀ j u, (Rn.hc (hs.drop k) (vs.drop k))[j]? = some u → w.cell? ((⟨gh, k * 2, none⟩ : Addr).add j) = some u := fun j u hu => by
 rw [← Rn.hc_drop, List.getElem?_drop] at hu
 have h1 := own_cells h _ u hu
 rw [Addr.add_lit, Nat.zero_add] at h1
 rw [Addr.add_lit]
 exact h1
/-- What holds in In's loop. -/
def RDAt (K0 : List (List UInt8) × K.E) (b : Nat) (own : List Nat) (R : Rn.E) (sv : Value) (us : List Value) (w : World) (gk : Nat) (v : Value) (wr : World) : Prop := ∃ hs vs got hv os o, hs.length = gk ∧ (hs.map (·.1)).Nodup ∧ Bx wr b 31 (Rn.cells { R with held := hs, got := got } sv hv) ∧ wr.ownsRow 0 33 1 sv R.sent.length us ∧ Vs wr us R.sent ∧
 wr.ownsRow 0 78 2 hv hs.length (Rn.hc hs vs) ∧ Vs wr vs (hs.map (·.2)) ∧ (∀ k, hv.ownBlock = some k → k ∈ own ∨ w.heap.size ≤ k) ∧ wr.ownsRow w.heap.size 33 1 v o.length os ∧ Vs wr os o ∧ TT own w wr ∧ 0 ≤ got ∧ got + (gk : Int) ≤ 2000000000 ∧ o.length + gk ≤ 1000000000 ∧
 K0 = (o ++ (K.dlv gk (Rn.E.k { R with held := hs, got := got })).1, (K.dlv gk (Rn.E.k { R with held := hs, got := got })).2)
theorem rd_step {K0 : List (List UInt8) × K.E} {b : Nat} {own : List Nat} {R : Rn.E} {sv v9 vo hv9 : Value} {us vs os : List Value} {w w9 : World} {m i n9 no : Nat} {hs : List (Int × List UInt8)} {o : List (List UInt8)} {got9 : Int} {l9 : List UInt8}
  (hgk : hs.length = m + 1) (nd : (hs.map (·.1)).Nodup) (hI : hs[i]? = some (got9 + 1, l9)) (hX : Bx w9 b 31 (Rn.cells { R with held := hs, got := got9 } sv hv9))
  (h1 : w9.ownsRow 0 78 2 v9 n9 (Rn.hc (hs.take i ++ hs.drop (i + 1)) (vs.take i ++ vs.drop (i + 1)))) (hn9 : n9 = m) (h4 : Vs w9 (vs.take i ++ vs.drop (i + 1)) ((hs.take i ++ hs.drop (i + 1)).map (·.2)))
  (hS : w9.ownsRow 0 33 1 sv R.sent.length us) (hUS : Vs w9 us R.sent) (hO : w9.ownsRow w.heap.size 33 1 vo no os) (hno : no = (o ++ [l9]).length) (hOS : Vs w9 os (o ++ [l9])) (hT : TT own w w9) (hbo : b ∈ own) (hbw : b < w.heap.size)
  (hown : ∀ k, v9.ownBlock = some k → k ∈ own ∨ w.heap.size ≤ k) (hg0 : 0 ≤ got9) (hg1 : got9 + ((m + 1 : Nat) : Int) ≤ 2000000000) (hol : o.length + (m + 1) ≤ 1000000000)
  (hK : K0 = (o ++ (K.dlv (m + 1) (Rn.E.k { R with held := hs, got := got9 })).1, (K.dlv (m + 1) (Rn.E.k { R with held := hs, got := got9 })).2))
  (hl : Rn.look hs (got9 + 1) = some l9) :
  RDAt K0 b own R sv us w m vo ((w9.setCell ⟨b, 5, none⟩ v9).setCell ⟨b, 4, none⟩ (.int .i64 (got9 + 1))) := by
 have hlt : i < hs.length := (List.getElem?_eq_some_iff.1 hI).1
 have hlen : (hs.take i ++ hs.drop (i + 1)).length = m := by rw [List.length_append, List.length_take, List.length_drop]; omega
 obtain ⟨n1, n2, -⟩ := rend_ne hX hS h1
 have n3 : ∀ k, vo.ownBlock = some k → k ≠ b := fun k hk e => by have := (hO.lt k hk).1; omega
 have hX5 := hX.setAs (i := 5) (x := v9) (l' := Rn.cells { R with held := hs, got := got9 } sv v9) rfl
 have hX4 := hX5.setAs (i := 4) (x := .int .i64 (got9 + 1)) (l' := Rn.cells { R with held := hs.take i ++ hs.drop (i + 1), got := got9 + 1 } sv v9) rfl
 have hkb : KB w9 ((w9.setCell ⟨b, 5, none⟩ v9).setCell ⟨b, 4, none⟩ (.int .i64 (got9 + 1))) := ((KB.refl w9).set_ hX (by decide) _).set_ hX5 (by decide) _
 refine ⟨_, _, got9 + 1, v9, os, o ++ [l9], hlen, Rn.nd_rem i nd, hX4, row_set (row_set hS n1 _) n1 _, hUS.kb hkb, ?_, h4.kb hkb, hown, ?_, hOS.kb hkb, ⟨(hT.1.set_ (.inl hbo) _).set_ (.inl hbo) _, hT.2.trans hkb⟩, by omega, by omega, by rw [List.length_append, List.length_singleton]; omega, ?_⟩
 ·rw [hlen, ← hn9]
  exact row_set (row_set h1 n2 _) n2 _
 ·rw [← hno]
  exact row_set (row_set hO n3 _) n3 _
 ·rw [hK, K.dlv_some (show (Rn.E.k { R with held := hs, got := got9 }).held ((Rn.E.k { R with held := hs, got := got9 }).del + 1) = some l9 from hl)]
  have e : ({ Rn.E.k { R with held := hs, got := got9 } with del := (Rn.E.k { R with held := hs, got := got9 }).del + 1, held := fun k => if k = (Rn.E.k { R with held := hs, got := got9 }).del + 1 then none else (Rn.E.k { R with held := hs, got := got9 }).held k, cnt := (Rn.E.k { R with held := hs, got := got9 }).cnt - 1 } : K.E) = Rn.E.k { R with held := hs.take i ++ hs.drop (i + 1), got := got9 + 1 } := by
   unfold Rn.E.k
   simp only [Rn.look_rem hs i (got9 + 1) l9 nd hI, hlen, hgk, Nat.add_sub_cancel]
  rw [e]
  simp
attribute [local go_sem] run_store_one in
set_option maxRecDepth 100000 in
theorem rin_pk (b : Nat) (own : List Nat) (R : Rn.E) (x : Value) (l : List UInt8) (w : World) (h : REnd w b own R) (ok : Rn.ok R) (hk : Rn.hok R) (hbv : BV w x l) (hl : l.length ≤ 1000000000000) (hE : (K.unseal R.key l).2 = 0) (p q : Int) (s : List UInt8) (hR : K.read (K.unseal R.key l).1 = some (p, q, s)) :
  Calls Try.prog 20 #[.pointer (some ⟨b, 0, none⟩), x] w (RRIn (K.into R.k p q s) b own R w) := by
 obtain ⟨win, key, sent, acked, got, held, owing, forged⟩ := R
 have hop := ropen_any key x l w ok.k.k hbv hl
 have HE := Lib.hid h; have HHK := Lib.hid hk; have HOK := Lib.hid ok
 obtain ⟨⟨w1, w2, a1, a2, d1, d2, f1, f2, hn, hlm, hcn, hkk⟩, hal, hsl⟩ := ok
 simp only [Rn.E.k] at w1 w2 a1 a2 d1 d2 f1 f2 hn hlm hcn hkk hal hsl
 have hs64 := K.read_some hR
 obtain ⟨hp64, hq64, hp0, hq0, hs1, -⟩ := hs64
 have hpm := hp64.2; have hqm := hq64.2
 obtain ⟨sv, hv, us, vs, hx, hs, hus, hh, hvs, hownE⟩ := h
 have HOWN := Lib.hid hownE
 unfold Rn.cells at hx
 simp only at hx hs hus hh hvs
 obtain ⟨n1_, n2_, n3_⟩ := rend_ne hx hs hh
 have HNN := Lib.hid n2_
 obtain ⟨N, hN⟩ : ∃ N, N = sent.length := ⟨_, rfl⟩
 rw [← hN] at hs hsl hal
 have HN := Lib.hid hN
 obtain ⟨As, cs, rfl, -⟩ := own_form hs
 obtain ⟨Ah, nh, ch, rfl⟩ : ∃ A n c, hv = .slice A n c := by obtain ⟨A, c, e, -⟩ := own_form hh; exact ⟨A, _, c, e⟩
 have HNH := Lib.hid (show nh = held.length by obtain ⟨A, c, e, -⟩ := own_form hh; injection e)
 have HSV := Lib.hid hs; have HUS := Lib.hid hus; have HHV := Lib.hid hh; have HVS := Lib.hid hvs; have HX0 := Lib.hid hx
 have HHL := Lib.hid (show held.length ≤ 1000000000 by omega); have HHL9 := Lib.hid (show held.length ≤ 900000000 from hcn)
 obtain ⟨c0, c1, c2, c3, c4, c5, c6, c7, z, l0⟩ := hx.f8
 obtain ⟨A, c, rfl, -⟩ := hbv
 have hul := unseal_len key l
 obtain ⟨Nl, hNl⟩ : ∃ N, N = l.length := ⟨_, rfl⟩
 rw [← hNl] at hop hul hl ⊢
 have HOP := Lib.hid hop; have HER := Lib.hid hE; have HRD := Lib.hid hR
 obtain ⟨r, hr⟩ : ∃ r, r = K.into (Rn.E.k ⟨win, key, sent, acked, got, held, owing, forged⟩) p q s := ⟨_, rfl⟩
 rw [← hr]
 have HRES := Lib.hid hr
 clear hop hE hNl hk hR hr hownE hs hus hh hvs hn hlm hkk hN hp64 hq64 hcn n1_ n2_ n3_
 go_enter Try.func20, Try.ntmps20
 go_wp2_with fail
 refine HOP.out.mono ?_
 rintro e w1 ⟨v1, rfl, hown, hb⟩
 rw [HER.out]
 have hown0 := hown
 obtain ⟨A1, c1', e1, -⟩ := hown
 obtain ⟨n1, hn1⟩ : ∃ n, n = (K.unseal key l).1.length := ⟨_, rfl⟩
 rw [← hn1] at e1
 subst e1
 have hrd := rread_bv hown0 (by omega)
 rw [HRD.out] at hrd
 have HRR := Lib.hid hrd
 have HB := Lib.hid hb
 clear hown0 hb c0 c1 c2 c3 c4 c5 c6 c7 z hrd hx hn1 hul l0
 go_wp2_with fail
 refine HRR.out.mono ?_
 rintro e w2 ⟨v2, rfl, hbv2, ka⟩
 have k6 := Lib.hid (Blw HB.out ka)
 have HBV2 := Lib.hid hbv2
 obtain ⟨A2, c2, rfl, -⟩ := hbv2
 obtain ⟨n2, hn2⟩ : ∃ n, n = s.length := ⟨_, rfl⟩
 rw [← hn2] at HBV2 hs1 ⊢
 have HN2 := Lib.hid hn2
 clear ka hn2
 go_upto_region 9 with fail
 generalize hW3 : w2.alloc (.cells _ 43) = w3
 obtain ⟨hx8, k7⟩ := box1 hW3
 have k5 := Lib.hid (Blw k6.out k7)
 have HBV3 := Lib.hid (HBV2.out.below k7)
 have HX3 := Lib.hid (HX0.out.below k5.out)
 obtain ⟨g8, hg8⟩ : ∃ g, g = w2.heap.size := ⟨_, rfl⟩
 rw [← hg8] at hx8 ⊢
 have HGW := Lib.hid (show w.heap.size ≤ g8 by rw [hg8]; exact k6.out.size)
 have HX8 := Lib.hid hx8
 clear hW3 k7 hg8 k6 HBV2 hx8
 have hw2 : IntKind.i64.wrap (got + 16) = got + 16 := by rw [IntKind.wrap_i64]; omega
 by_cases hqN0 : (N : Int) < q
 ·have hqN := hqN0
  go_upto_region 9 with fail
  generalize hW_9 : w3.drew = W_9
  refine gen_act ?_
  intro F_ hF_
  have ev0 : F_.eval (.tmp 0) = .pointer (some ⟨b, 0, none⟩) := by rw [← hF_]; rfl
  have ev8 : F_.eval (.tmp 8) = .pointer (some ⟨g8, 0, none⟩) := by rw [← hF_]; rfl
  have hsz_ : ∀ d ∈ ([(42, []), (43, [0]), (44, []), (45, [2]), (46, [3]), (47, [4]), (48, [5]), (49, [1, 6]), (50, [7]), (51, [8]), (52, [9, 8]), (53, [8]), (54, [11, 8]), (55, [12, 8]), (56, [13, 8]), (57, [14, 8]), (58, [10, 15, 8]), (59, [8, 16])] : List (Nat × List Nat)).map (·.1), d < F_.tmps.size := by rw [← hF_]; simp
  have HF_ := Lib.hid hF_; clear hF_
  refine wp_flow_tabG true hW_9 18 [(42, []), (43, [0]), (44, []), (45, [2]), (46, [3]), (47, [4]), (48, [5]), (49, [1, 6]), (50, [7]), (51, [8]), (52, [9, 8]), (53, [8]), (54, [11, 8]), (55, [12, 8]), (56, [13, 8]), (57, [14, 8]), (58, [10, 15, 8]), (59, [8, 16])] [SC (.pointer (some ⟨g8, 1, none⟩)), SC (.int .i64 q), SC (.pointer (some ⟨b, 0, none⟩)), SC (.pointer (some ⟨b, 0, none⟩)), SC (.pointer (some ⟨b, 2, none⟩)), SC (.slice As N cs), SC (.int .i64 ((N : Nat) : Int)), SC (.bool true), SC (.bool true), SC undef, SC undef, SC undef, SC undef, SC undef, SC undef, SC undef, SC undef, SC (.bool true)] [false, false, false, false, false, false, false, false, false, false, false, false, false, false, false, false, false, false] (by kernel_rfl) (by kernel_rfl) (by kernel_rfl) (by kernel_rfl) (by kernel_rfl) hsz_ ⟨SC.mono _, SC.mono _, SC.mono _, SC.mono _, SC.mono _, SC.mono _, SC.mono _, SC.mono _, SC.mono _, SC.mono _, SC.mono _, SC.mono _, SC.mono _, SC.mono _, SC.mono _, SC.mono _, SC.mono _, SC.mono _, trivial⟩ ?_ ?_
  ·intro kq hkq a wx hB hp hs
   have hBo : Below w3.heap.size w3 wx := dB hW_9 hB
   have hcase : kq = 0 ∨ kq = 1 ∨ kq = 2 ∨ kq = 3 ∨ kq = 4 ∨ kq = 5 ∨ kq = 6 ∨ kq = 7 ∨ kq = 8 ∨ kq = 9 ∨ kq = 10 ∨ kq = 11 ∨ kq = 12 ∨ kq = 13 ∨ kq = 14 ∨ kq = 15 ∨ kq = 16 ∨ kq = 17 := by omega
   rcases hcase with rfl | rfl | rfl | rfl | rfl | rfl | rfl | rfl | rfl | rfl | rfl | rfl | rfl | rfl | rfl | rfl | rfl | rfl
   ·clear hp
    exact ⟨_, rfl, .inl ⟨wanted_none rfl, fa_sherdref37_Packet_1 rfl ((hs 8 rfl).trans ev8)⟩⟩
   ·obtain ⟨k0, -⟩ := hp
    exact ⟨_, rfl, .inl ⟨wanted_none rfl, ld_int rfl k0 (HX8.out.below hBo) rfl⟩⟩
   ·clear hp
    exact ⟨_, rfl, .inl ⟨wanted_none rfl, op_mv (s := SC _) rfl ((hs 0 rfl).trans ev0)⟩⟩
   ·obtain ⟨k0, -⟩ := hp
    exact ⟨_, rfl, .inl ⟨wanted_none rfl, op_nil rfl k0⟩⟩
   ·obtain ⟨k0, -⟩ := hp
    exact ⟨_, rfl, .inl ⟨wanted_none rfl, fa_sherdref37_End_2 rfl k0⟩⟩
   ·obtain ⟨k0, -⟩ := hp
    exact ⟨_, rfl, .inl ⟨wanted_none rfl, ld_____uint8 rfl k0 (HX3.out.below hBo) rfl⟩⟩
   ·obtain ⟨k0, -⟩ := hp
    have e0 : a.eval (.tmp 47) = .slice As N cs := k0
    simp [Act.eval] at e0
    exact ⟨_, rfl, .inl ⟨wanted_none rfl, Does.val (by simp [execOp, Act.eval, e0, go_sem]) rfl⟩⟩
   ·obtain ⟨k0, k1, -⟩ := hp
    have e0 : a.eval (.tmp 43) = .int .i64 q := k0
    simp [Act.eval] at e0
    have e1 : a.eval (.tmp 48) = .int .i64 ((N : Nat) : Int) := k1
    simp [Act.eval] at e1
    exact ⟨_, rfl, .inl ⟨wanted_none rfl, Does.val (by simp [execOp, Act.eval, e0, e1, go_sem, hqN]) rfl⟩⟩
   ·obtain ⟨k0, -⟩ := hp
    exact ⟨_, rfl, .inl ⟨wanted_none rfl, op_mv (s := SC _) rfl k0⟩⟩
   ·obtain ⟨k0, -⟩ := hp
    have hgd : a.eval (.tmp 50) = .bool true := k0
    exact ⟨_, rfl, .inr ⟨(wanted_of rfl rfl hgd).trans rfl, rfl, rfl⟩⟩
   ·obtain ⟨k0, k1, -⟩ := hp
    have hgd : a.eval (.tmp 50) = .bool true := k1
    exact ⟨_, rfl, .inr ⟨(wanted_of rfl rfl hgd).trans rfl, rfl, rfl⟩⟩
   ·obtain ⟨k0, -⟩ := hp
    have hgd : a.eval (.tmp 50) = .bool true := k0
    exact ⟨_, rfl, .inr ⟨(wanted_of rfl rfl hgd).trans rfl, rfl, rfl⟩⟩
   ·obtain ⟨k0, k1, -⟩ := hp
    have hgd : a.eval (.tmp 50) = .bool true := k1
    exact ⟨_, rfl, .inr ⟨(wanted_of rfl rfl hgd).trans rfl, rfl, rfl⟩⟩
   ·obtain ⟨k0, k1, -⟩ := hp
    have hgd : a.eval (.tmp 50) = .bool true := k1
    exact ⟨_, rfl, .inr ⟨(wanted_of rfl rfl hgd).trans rfl, rfl, rfl⟩⟩
   ·obtain ⟨k0, k1, -⟩ := hp
    have hgd : a.eval (.tmp 50) = .bool true := k1
    exact ⟨_, rfl, .inr ⟨(wanted_of rfl rfl hgd).trans rfl, rfl, rfl⟩⟩
   ·obtain ⟨k0, k1, -⟩ := hp
    have hgd : a.eval (.tmp 50) = .bool true := k1
    exact ⟨_, rfl, .inr ⟨(wanted_of rfl rfl hgd).trans rfl, rfl, rfl⟩⟩
   ·obtain ⟨k0, k1, k4, -⟩ := hp
    have hgd : a.eval (.tmp 50) = .bool true := k4
    exact ⟨_, rfl, .inr ⟨(wanted_of rfl rfl hgd).trans rfl, rfl, rfl⟩⟩
   ·obtain ⟨k0, k1, -⟩ := hp
    have e0 : a.eval (.tmp 50) = .bool true := k0
    simp [Act.eval] at e0
    have e1 : a.eval (.tmp 58) = undef := k1
    simp [Act.eval] at e1
    exact ⟨_, rfl, .inl ⟨wanted_none rfl, Does.val (by simp [execOp, Act.eval, e0, e1, go_sem]) rfl⟩⟩
  ·intro val wx hB hsp hdis
   have hBo : Below w3.heap.size w3 wx := dB hW_9 hB
   have e17 : val 17 = .bool true := hsp 17 (by omega)
   rw [← HF_.out]
   change wpList _ _ _ [] _ _
   simp only [puts_consT, puts_nilm, vals, List.map_cons, List.map_nil, Nat.zero_add, Nat.reduceAdd, e17, List.setIfInBounds_toArray, List.set_cons_succ, List.set_cons_zero]
   clear hsp hdis HF_ hsz_ hB hW_9 e17 ev0 ev8
   have k3 := Lib.hid (Blw k5.out hBo)
   clear hBo
   go_wp2
   go_ret2
   rw [HRES.out, Rn.into_skip HOK.out (.inl (by rw [← HN.out]; exact hqN0))]
   exact RRIn.same rfl rfl HHK.out (HE.out.below k3.out) ⟨Tc.of k3.out, KB.of k3.out⟩
 have hqN : q ≤ (N : Int) := by omega
 clear hqN0
 go_upto_region 9 with fail
 generalize hW_9 : w3.drew = W_9
 refine gen_act ?_
 intro F_ hF_
 have ev0 : F_.eval (.tmp 0) = .pointer (some ⟨b, 0, none⟩) := by rw [← hF_]; rfl
 have ev8 : F_.eval (.tmp 8) = .pointer (some ⟨g8, 0, none⟩) := by rw [← hF_]; rfl
 have hsz_ : ∀ d ∈ ([(42, []), (43, [0]), (44, []), (45, [2]), (46, [3]), (47, [4]), (48, [5]), (49, [1, 6]), (50, [7]), (51, [8]), (52, [9, 8]), (53, [8]), (54, [11, 8]), (55, [12, 8]), (56, [13, 8]), (57, [14, 8])] : List (Nat × List Nat)).map (·.1), d < F_.tmps.size := by rw [← hF_]; simp
 have HF_ := Lib.hid hF_; clear hF_
 refine wp_flow_tabG true hW_9 16 [(42, []), (43, [0]), (44, []), (45, [2]), (46, [3]), (47, [4]), (48, [5]), (49, [1, 6]), (50, [7]), (51, [8]), (52, [9, 8]), (53, [8]), (54, [11, 8]), (55, [12, 8]), (56, [13, 8]), (57, [14, 8])] [SC (.pointer (some ⟨g8, 1, none⟩)), SC (.int .i64 q), SC (.pointer (some ⟨b, 0, none⟩)), SC (.pointer (some ⟨b, 0, none⟩)), SC (.pointer (some ⟨b, 2, none⟩)), SC (.slice As N cs), SC (.int .i64 ((N : Nat) : Int)), SC (.bool false), SC (.bool false), SC (.pointer (some ⟨g8, 0, none⟩)), SC (.int .i64 p), SC (.pointer (some ⟨b, 0, none⟩)), SC (.pointer (some ⟨b, 0, none⟩)), SC (.pointer (some ⟨b, 4, none⟩)), SC (.int .i64 got), SC (.int .i64 (got + 16))] [false, false, false, false, false, false, false, false, false, false, false, false, false, false, false, false] (by kernel_rfl) (by kernel_rfl) (by kernel_rfl) (by kernel_rfl) (by kernel_rfl) hsz_ ⟨SC.mono _, SC.mono _, SC.mono _, SC.mono _, SC.mono _, SC.mono _, SC.mono _, SC.mono _, SC.mono _, SC.mono _, SC.mono _, SC.mono _, SC.mono _, SC.mono _, SC.mono _, SC.mono _, trivial⟩ ?_ ?_
 ·intro kq hkq a wx hB hp hs
  have hBo : Below w3.heap.size w3 wx := dB hW_9 hB
  have hcase : kq = 0 ∨ kq = 1 ∨ kq = 2 ∨ kq = 3 ∨ kq = 4 ∨ kq = 5 ∨ kq = 6 ∨ kq = 7 ∨ kq = 8 ∨ kq = 9 ∨ kq = 10 ∨ kq = 11 ∨ kq = 12 ∨ kq = 13 ∨ kq = 14 ∨ kq = 15 := by omega
  rcases hcase with rfl | rfl | rfl | rfl | rfl | rfl | rfl | rfl | rfl | rfl | rfl | rfl | rfl | rfl | rfl | rfl
  ·clear hp
   exact ⟨_, rfl, .inl ⟨wanted_none rfl, fa_sherdref37_Packet_1 rfl ((hs 8 rfl).trans ev8)⟩⟩
  ·obtain ⟨k0, -⟩ := hp
   exact ⟨_, rfl, .inl ⟨wanted_none rfl, ld_int rfl k0 (HX8.out.below hBo) rfl⟩⟩
  ·clear hp
   exact ⟨_, rfl, .inl ⟨wanted_none rfl, op_mv (s := SC _) rfl ((hs 0 rfl).trans ev0)⟩⟩
  ·obtain ⟨k0, -⟩ := hp
   exact ⟨_, rfl, .inl ⟨wanted_none rfl, op_nil rfl k0⟩⟩
  ·obtain ⟨k0, -⟩ := hp
   exact ⟨_, rfl, .inl ⟨wanted_none rfl, fa_sherdref37_End_2 rfl k0⟩⟩
  ·obtain ⟨k0, -⟩ := hp
   exact ⟨_, rfl, .inl ⟨wanted_none rfl, ld_____uint8 rfl k0 (HX3.out.below hBo) rfl⟩⟩
  ·obtain ⟨k0, -⟩ := hp
   have e0 : a.eval (.tmp 47) = .slice As N cs := k0
   simp [Act.eval] at e0
   exact ⟨_, rfl, .inl ⟨wanted_none rfl, Does.val (by simp [execOp, Act.eval, e0, go_sem]) rfl⟩⟩
  ·obtain ⟨k0, k1, -⟩ := hp
   have e0 : a.eval (.tmp 43) = .int .i64 q := k0
   simp [Act.eval] at e0
   have e1 : a.eval (.tmp 48) = .int .i64 ((N : Nat) : Int) := k1
   simp [Act.eval] at e1
   exact ⟨_, rfl, .inl ⟨wanted_none rfl, Does.val (by simp [execOp, Act.eval, e0, e1, go_sem, hqN]) rfl⟩⟩
  ·obtain ⟨k0, -⟩ := hp
   exact ⟨_, rfl, .inl ⟨wanted_none rfl, op_mv (s := SC _) rfl k0⟩⟩
  ·obtain ⟨k0, -⟩ := hp
   have hgd : a.eval (.tmp 50) = .bool false := k0
   exact ⟨_, rfl, .inl ⟨(wanted_of rfl rfl hgd).trans rfl, fa_sherdref37_Packet_0 rfl ((hs 8 rfl).trans ev8)⟩⟩
  ·obtain ⟨k0, k1, -⟩ := hp
   have hgd : a.eval (.tmp 50) = .bool false := k1
   exact ⟨_, rfl, .inl ⟨(wanted_of rfl rfl hgd).trans rfl, ld_int rfl k0 (HX8.out.below hBo) rfl⟩⟩
  ·obtain ⟨k0, -⟩ := hp
   have hgd : a.eval (.tmp 50) = .bool false := k0
   exact ⟨_, rfl, .inl ⟨(wanted_of rfl rfl hgd).trans rfl, op_mv (s := SC _) rfl ((hs 0 rfl).trans ev0)⟩⟩
  ·obtain ⟨k0, k1, -⟩ := hp
   have hgd : a.eval (.tmp 50) = .bool false := k1
   exact ⟨_, rfl, .inl ⟨(wanted_of rfl rfl hgd).trans rfl, op_nil rfl k0⟩⟩
  ·obtain ⟨k0, k1, -⟩ := hp
   have hgd : a.eval (.tmp 50) = .bool false := k1
   exact ⟨_, rfl, .inl ⟨(wanted_of rfl rfl hgd).trans rfl, fa_sherdref37_End_4 rfl k0⟩⟩
  ·obtain ⟨k0, k1, -⟩ := hp
   have hgd : a.eval (.tmp 50) = .bool false := k1
   exact ⟨_, rfl, .inl ⟨(wanted_of rfl rfl hgd).trans rfl, ld_int rfl k0 (HX3.out.below hBo) rfl⟩⟩
  ·obtain ⟨k0, k1, -⟩ := hp
   have hgd : a.eval (.tmp 50) = .bool false := k1
   have e0 : a.eval (.tmp 56) = .int .i64 got := k0
   simp [Act.eval] at e0
   exact ⟨_, rfl, .inl ⟨(wanted_of rfl rfl hgd).trans rfl, Does.val (by simp [execOp, Act.eval, e0, go_sem, hw2]) rfl⟩⟩
 ·intro val wx hB hsp hdis
  have hBo : Below w3.heap.size w3 wx := dB hW_9 hB
  have e8 : val 8 = .bool false := hsp 8 (by omega)
  have e10 : val 10 = .int .i64 p := hsp 10 (by omega)
  have e15 : val 15 = .int .i64 (got + 16) := hsp 15 (by omega)
  rw [← HF_.out]
  change wpList _ _ _ [_, _] _ _
  simp only [puts_consT, puts_nilm, vals, List.map_cons, List.map_nil, Nat.zero_add, Nat.reduceAdd, e8, e10, e15, List.setIfInBounds_toArray, List.set_cons_succ, List.set_cons_zero]
  clear hsp hdis HF_ hsz_ hB hW_9 e8 e10 e15 ev0 ev8
  obtain ⟨w4, rfl⟩ : ∃ w4 : World, w4 = wx := ⟨_, rfl⟩
  have k3 := Lib.hid (Blw k5.out hBo); have HX4 := Lib.hid (HX3.out.below hBo); have HX84 := Lib.hid (HX8.out.below hBo); have HBV4 := Lib.hid (HBV3.out.below hBo)
  clear hBo k5 HX3 HX8 HBV3
  by_cases hpg0 : got + 16 < p
  ·have hpg16 := hpg0
   go_wp2
   go_ret2
   rw [HRES.out, Rn.into_skip HOK.out (.inr hpg0)]
   exact RRIn.same rfl rfl HHK.out (HE.out.below k3.out) ⟨Tc.of k3.out, KB.of k3.out⟩
  have hpg16 : p ≤ got + 16 := by omega
  clear hpg0
  obtain ⟨M, hM0⟩ : ∃ M, M = max acked q := ⟨_, rfl⟩
  have HMM := Lib.hid hM0
  have hM : (if acked < q then q else acked) = M := by rw [hM0]; omega
  clear hM0
  go_wp2_with fail
  go_upto_region 11 with fail
  generalize hW_11 : w4.drew = W_11
  refine gen_act ?_
  intro F_ hF_
  have ev0 : F_.eval (.tmp 0) = .pointer (some ⟨b, 0, none⟩) := by rw [← hF_]; rfl
  have ev8 : F_.eval (.tmp 8) = .pointer (some ⟨g8, 0, none⟩) := by rw [← hF_]; rfl
  have hsz_ : ∀ d ∈ ([(60, []), (61, []), (62, [1]), (63, [2]), (64, [3]), (65, []), (66, [5]), (67, [4, 6])] : List (Nat × List Nat)).map (·.1), d < F_.tmps.size := by rw [← hF_]; simp
  have HF_ := Lib.hid hF_; clear hF_
  refine wp_flow_tab true hW_11 8 [(60, []), (61, []), (62, [1]), (63, [2]), (64, [3]), (65, []), (66, [5]), (67, [4, 6])] [SC (.pointer (some ⟨b, 0, none⟩)), SC (.pointer (some ⟨b, 0, none⟩)), SC (.pointer (some ⟨b, 0, none⟩)), SC (.pointer (some ⟨b, 3, none⟩)), SC (.int .i64 acked), SC (.pointer (some ⟨g8, 1, none⟩)), SC (.int .i64 q), SC (.int .i64 M)] [false, false, false, false, false, false, false, false] (by kernel_rfl) (by kernel_rfl) (by kernel_rfl) (by kernel_rfl) (by kernel_rfl) hsz_ ⟨SC.mono _, SC.mono _, SC.mono _, SC.mono _, SC.mono _, SC.mono _, SC.mono _, SC.mono _, trivial⟩ ?_ ?_
  ·intro kq hkq a wx hB hp hs
   have hBo : Below w4.heap.size w4 wx := dB hW_11 hB
   have hcase : kq = 0 ∨ kq = 1 ∨ kq = 2 ∨ kq = 3 ∨ kq = 4 ∨ kq = 5 ∨ kq = 6 ∨ kq = 7 := by omega
   rcases hcase with rfl | rfl | rfl | rfl | rfl | rfl | rfl | rfl
   ·clear hp
    exact ⟨_, rfl, op_mv (s := SC _) rfl ((hs 0 rfl).trans ev0)⟩
   ·clear hp
    exact ⟨_, rfl, op_mv (s := SC _) rfl ((hs 0 rfl).trans ev0)⟩
   ·obtain ⟨k0, -⟩ := hp
    exact ⟨_, rfl, op_nil rfl k0⟩
   ·obtain ⟨k0, -⟩ := hp
    exact ⟨_, rfl, fa_sherdref37_End_3 rfl k0⟩
   ·obtain ⟨k0, -⟩ := hp
    exact ⟨_, rfl, ld_int rfl k0 (HX4.out.below hBo) rfl⟩
   ·clear hp
    exact ⟨_, rfl, fa_sherdref37_Packet_1 rfl ((hs 8 rfl).trans ev8)⟩
   ·obtain ⟨k0, -⟩ := hp
    exact ⟨_, rfl, ld_int rfl k0 (HX84.out.below hBo) rfl⟩
   ·obtain ⟨k0, k1, -⟩ := hp
    have e0 : a.eval (.tmp 64) = .int .i64 acked := k0
    simp [Act.eval] at e0
    have e1 : a.eval (.tmp 66) = .int .i64 q := k1
    simp [Act.eval] at e1
    exact ⟨_, rfl, Does.val (by simp [execOp, Act.eval, e0, e1, go_sem, hM]) rfl⟩
  ·intro val wx hB hsp hdis
   have hBo : Below w4.heap.size w4 wx := dB hW_11 hB
   have e0 : val 0 = .pointer (some ⟨b, 0, none⟩) := hsp 0 (by omega)
   have e7 : val 7 = .int .i64 M := hsp 7 (by omega)
   rw [← HF_.out]
   change wpList _ _ _ [_, _, _] _ _
   simp only [puts_consT, puts_nilm, vals, List.map_cons, List.map_nil, Nat.zero_add, Nat.reduceAdd, e0, e7, List.setIfInBounds_toArray, List.set_cons_succ, List.set_cons_zero]
   clear hsp hdis HF_ hsz_ hB hW_11 e0 e7 ev0 ev8
   clear hM
   obtain ⟨w4', rfl⟩ : ∃ w4 : World, w4 = wx := ⟨_, rfl⟩
   have HB4' := Lib.hid (Blw k3.out hBo); have HX4' := Lib.hid (HX4.out.below hBo); have HX84' := Lib.hid (HX84.out.below hBo); have HBV4' := Lib.hid (HBV4.out.below hBo)
   have HGN := Lib.hid (show g8 ≠ b by have h1 := HX0.out.lt; have := HGW.out; omega)
   clear hBo k3 HX4 HX84 HBV4
   obtain ⟨c0, c1, c2', c3, c4, c5, c6, c7, z, l0⟩ := HX4'.out.f8
   obtain ⟨d0, d1, d2, z8, l8⟩ := f3 HX84'.out
   go_upto_region 12 with fail
   have HEX := Lib.hid ((HE.out.below HB4'.out).set_ 3 (.int .i64 M) ⟨win, key, sent, M, got, held, owing, forged⟩ (fun _ _ => rfl) rfl rfl)
   generalize hW5 : w4'.setCell _ _ = w5
   have HX5 : Hid (Bx w5 b 31 [.int .i64 win, .int .u64 key, .slice As N cs, .int .i64 M, .int .i64 got, .slice Ah nh ch, .bool owing, .int .i64 forged]) := Lib.hid (by rw [← hW5]; exact HX4'.out.setAs rfl)
   have HX85 : Hid (Bx w5 g8 43 [.int .i64 p, .int .i64 q, .slice A2 n2 c2]) := Lib.hid (by rw [← hW5]; exact HX84'.out.far_ HGN.out _)
   have HBV5 : Hid (BV w5 (.slice A2 n2 c2) s) := Lib.hid (by rw [← hW5]; exact HBV4'.out.kb ((KB.refl _).set_ HX4'.out (by decide) _))
   rw [hW5] at HEX
   have HT5 := Lib.hid ((TT.rel own).trans ⟨Tc.of HB4'.out, KB.of HB4'.out⟩ HEX.out.2)
   have HE5 := Lib.hid HEX.out.1
   clear hW5 HEX HX4' HX84' HBV4' HB4' c0 c1 c2' c3 c4 c5 c6 c7 z l0 d0 d1 d2 z8 l8
   obtain ⟨c0, c1, c2', c3, c4, c5, c6, c7, z, l0⟩ := HX5.out.f8
   obtain ⟨d0, d1, d2, z8, l8⟩ := f3 HX85.out
   by_cases hp00 : p = 0
   ·subst hp00
    go_wp2
    go_ret2
    rw [HRES.out, Rn.into_zero HOK.out (by show q ≤ (sent.length : Int); rw [← HN.out]; exact hqN)]
    exact RRIn.same (R' := ⟨win, key, sent, M, got, held, owing, forged⟩) (by rw [HMM.out]) rfl ⟨HHK.out.nd, HHK.out.f⟩ HE5.out HT5.out
   have hpe : (p == 0) = false := beq_eq_false_iff_ne.2 hp00
   have HP0 := Lib.hid hp00; clear hp00
   go_upto_region 15 with fail
   have HEX := Lib.hid (HE5.out.set_ 6 (.bool true) ⟨win, key, sent, M, got, held, true, forged⟩ (fun _ _ => rfl) rfl rfl)
   generalize hW6 : w5.setCell _ _ = w6
   have HX6 : Hid (Bx w6 b 31 [.int .i64 win, .int .u64 key, .slice As N cs, .int .i64 M, .int .i64 got, .slice Ah nh ch, .bool true, .int .i64 forged]) := Lib.hid (by rw [← hW6]; exact HX5.out.setAs rfl)
   have HX86 : Hid (Bx w6 g8 43 [.int .i64 p, .int .i64 q, .slice A2 n2 c2]) := Lib.hid (by rw [← hW6]; exact HX85.out.far_ HGN.out _)
   have HBV6 : Hid (BV w6 (.slice A2 n2 c2) s) := Lib.hid (by rw [← hW6]; exact HBV5.out.kb ((KB.refl _).set_ HX5.out (by decide) _))
   rw [hW6] at HEX
   have HT6 := Lib.hid ((TT.rel own).trans HT5.out HEX.out.2)
   have HE6 := Lib.hid HEX.out.1
   clear hW6 HEX HX5 HX85 HBV5 HT5 HE5 c0 c1 c2' c3 c4 c5 c6 c7 z l0 d0 d1 d2 z8 l8 hpe
   by_cases hpg0 : p ≤ got
   ·have hpg := hpg0
    go_upto_region 15 with fail
    generalize hW_15 : w6.drew = W_15
    refine gen_act ?_
    intro F_ hF_
    have ev0 : F_.eval (.tmp 0) = .pointer (some ⟨b, 0, none⟩) := by rw [← hF_]; rfl
    have ev8 : F_.eval (.tmp 8) = .pointer (some ⟨g8, 0, none⟩) := by rw [← hF_]; rfl
    have hsz_ : ∀ d ∈ ([(76, []), (77, [0]), (78, []), (79, [2]), (80, [3]), (81, [4]), (82, [1, 5]), (83, [6]), (84, [7]), (85, [7]), (86, [9, 7]), (87, [8, 10, 7]), (88, [11, 7]), (89, [7, 12])] : List (Nat × List Nat)).map (·.1), d < F_.tmps.size := by rw [← hF_]; simp
    have HF_ := Lib.hid hF_; clear hF_
    refine wp_flow_tabG true hW_15 14 [(76, []), (77, [0]), (78, []), (79, [2]), (80, [3]), (81, [4]), (82, [1, 5]), (83, [6]), (84, [7]), (85, [7]), (86, [9, 7]), (87, [8, 10, 7]), (88, [11, 7]), (89, [7, 12])] [SC (.pointer (some ⟨g8, 0, none⟩)), SC (.int .i64 p), SC (.pointer (some ⟨b, 0, none⟩)), SC (.pointer (some ⟨b, 0, none⟩)), SC (.pointer (some ⟨b, 4, none⟩)), SC (.int .i64 got), SC (.bool true), SC (.bool true), SC undef, SC undef, SC undef, SC undef, SC undef, SC (.bool true)] [false, false, false, false, false, false, false, false, false, false, false, false, false, false] (by kernel_rfl) (by kernel_rfl) (by kernel_rfl) (by kernel_rfl) (by kernel_rfl) hsz_ ⟨SC.mono _, SC.mono _, SC.mono _, SC.mono _, SC.mono _, SC.mono _, SC.mono _, SC.mono _, SC.mono _, SC.mono _, SC.mono _, SC.mono _, SC.mono _, SC.mono _, trivial⟩ ?_ ?_
    ·intro kq hkq a wx hB hp hs
     have hBo : Below w6.heap.size w6 wx := dB hW_15 hB
     have hcase : kq = 0 ∨ kq = 1 ∨ kq = 2 ∨ kq = 3 ∨ kq = 4 ∨ kq = 5 ∨ kq = 6 ∨ kq = 7 ∨ kq = 8 ∨ kq = 9 ∨ kq = 10 ∨ kq = 11 ∨ kq = 12 ∨ kq = 13 := by omega
     rcases hcase with rfl | rfl | rfl | rfl | rfl | rfl | rfl | rfl | rfl | rfl | rfl | rfl | rfl | rfl
     ·clear hp
      exact ⟨_, rfl, .inl ⟨wanted_none rfl, fa_sherdref37_Packet_0 rfl ((hs 8 rfl).trans ev8)⟩⟩
     ·obtain ⟨k0, -⟩ := hp
      exact ⟨_, rfl, .inl ⟨wanted_none rfl, ld_int rfl k0 (HX86.out.below hBo) rfl⟩⟩
     ·clear hp
      exact ⟨_, rfl, .inl ⟨wanted_none rfl, op_mv (s := SC _) rfl ((hs 0 rfl).trans ev0)⟩⟩
     ·obtain ⟨k0, -⟩ := hp
      exact ⟨_, rfl, .inl ⟨wanted_none rfl, op_nil rfl k0⟩⟩
     ·obtain ⟨k0, -⟩ := hp
      exact ⟨_, rfl, .inl ⟨wanted_none rfl, fa_sherdref37_End_4 rfl k0⟩⟩
     ·obtain ⟨k0, -⟩ := hp
      exact ⟨_, rfl, .inl ⟨wanted_none rfl, ld_int rfl k0 (HX6.out.below hBo) rfl⟩⟩
     ·obtain ⟨k0, k1, -⟩ := hp
      have e0 : a.eval (.tmp 77) = .int .i64 p := k0
      simp [Act.eval] at e0
      have e1 : a.eval (.tmp 81) = .int .i64 got := k1
      simp [Act.eval] at e1
      exact ⟨_, rfl, .inl ⟨wanted_none rfl, Does.val (by simp [execOp, Act.eval, e0, e1, go_sem, hpg]) rfl⟩⟩
     ·obtain ⟨k0, -⟩ := hp
      exact ⟨_, rfl, .inl ⟨wanted_none rfl, op_mv (s := SC _) rfl k0⟩⟩
     ·obtain ⟨k0, -⟩ := hp
      have hgd : a.eval (.tmp 83) = .bool true := k0
      exact ⟨_, rfl, .inr ⟨(wanted_of rfl rfl hgd).trans rfl, rfl, rfl⟩⟩
     ·obtain ⟨k0, -⟩ := hp
      have hgd : a.eval (.tmp 83) = .bool true := k0
      exact ⟨_, rfl, .inr ⟨(wanted_of rfl rfl hgd).trans rfl, rfl, rfl⟩⟩
     ·obtain ⟨k0, k1, -⟩ := hp
      have hgd : a.eval (.tmp 83) = .bool true := k1
      exact ⟨_, rfl, .inr ⟨(wanted_of rfl rfl hgd).trans rfl, rfl, rfl⟩⟩
     ·obtain ⟨k0, k1, k4, -⟩ := hp
      have hgd : a.eval (.tmp 83) = .bool true := k4
      exact ⟨_, rfl, .inr ⟨(wanted_of rfl rfl hgd).trans rfl, rfl, rfl⟩⟩
     ·obtain ⟨k0, k1, -⟩ := hp
      have hgd : a.eval (.tmp 83) = .bool true := k1
      exact ⟨_, rfl, .inr ⟨(wanted_of rfl rfl hgd).trans rfl, rfl, rfl⟩⟩
     ·obtain ⟨k0, k1, -⟩ := hp
      have e0 : a.eval (.tmp 83) = .bool true := k0
      simp [Act.eval] at e0
      have e1 : a.eval (.tmp 88) = undef := k1
      simp [Act.eval] at e1
      exact ⟨_, rfl, .inl ⟨wanted_none rfl, Does.val (by simp [execOp, Act.eval, e0, e1, go_sem]) rfl⟩⟩
    ·intro val wx hB hsp hdis
     have hBo : Below w6.heap.size w6 wx := dB hW_15 hB
     have e13 : val 13 = .bool true := hsp 13 (by omega)
     rw [← HF_.out]
     change wpList _ _ _ [] _ _
     simp only [puts_consT, puts_nilm, vals, List.map_cons, List.map_nil, Nat.zero_add, Nat.reduceAdd, e13, List.setIfInBounds_toArray, List.set_cons_succ, List.set_cons_zero]
     clear hsp hdis HF_ hsz_ hB hW_15 e13 ev0 ev8
     go_wp2
     go_ret2
     rw [HRES.out, Rn.into_old HOK.out HHK.out (by show q ≤ (sent.length : Int); rw [← HN.out]; exact hqN) hpg16 HP0.out (.inl hpg0)]
     have HTX := Lib.hid ((TT.rel own).trans HT6.out ⟨Tc.of hBo, KB.of hBo⟩)
     exact RRIn.same (R' := ⟨win, key, sent, M, got, held, true, forged⟩) (by rw [HMM.out]) rfl ⟨HHK.out.nd, HHK.out.f⟩ (HE6.out.below hBo) HTX.out
   have hpg : got < p := by omega
   clear hpg0
   go_upto_region 15 with fail
   generalize hW_15 : w6.drew = W_15
   refine gen_act ?_
   intro F_ hF_
   have ev0 : F_.eval (.tmp 0) = .pointer (some ⟨b, 0, none⟩) := by rw [← hF_]; rfl
   have ev8 : F_.eval (.tmp 8) = .pointer (some ⟨g8, 0, none⟩) := by rw [← hF_]; rfl
   have hsz_ : ∀ d ∈ ([(76, []), (77, [0]), (78, []), (79, [2]), (80, [3]), (81, [4]), (82, [1, 5]), (83, [6]), (84, [7]), (85, [7]), (86, [9, 7]), (87, [8, 10, 7])] : List (Nat × List Nat)).map (·.1), d < F_.tmps.size := by rw [← hF_]; simp
   have HF_ := Lib.hid hF_; clear hF_
   refine wp_flow_tabG true hW_15 12 [(76, []), (77, [0]), (78, []), (79, [2]), (80, [3]), (81, [4]), (82, [1, 5]), (83, [6]), (84, [7]), (85, [7]), (86, [9, 7]), (87, [8, 10, 7])] [SC (.pointer (some ⟨g8, 0, none⟩)), SC (.int .i64 p), SC (.pointer (some ⟨b, 0, none⟩)), SC (.pointer (some ⟨b, 0, none⟩)), SC (.pointer (some ⟨b, 4, none⟩)), SC (.int .i64 got), SC (.bool false), SC (.bool false), SC (.pointer (some ⟨b, 0, none⟩)), SC (.pointer (some ⟨g8, 0, none⟩)), SC (.int .i64 p), SC (.int .i64 (Rn.find held p))] [false, false, false, false, false, false, false, false, false, false, false, false] (by kernel_rfl) (by kernel_rfl) (by kernel_rfl) (by kernel_rfl) (by kernel_rfl) hsz_ ⟨SC.mono _, SC.mono _, SC.mono _, SC.mono _, SC.mono _, SC.mono _, SC.mono _, SC.mono _, SC.mono _, SC.mono _, SC.mono _, SC.mono _, trivial⟩ ?_ ?_
   ·intro kq hkq a wx hB hp hs
    have hBo : Below w6.heap.size w6 wx := dB hW_15 hB
    have hcase : kq = 0 ∨ kq = 1 ∨ kq = 2 ∨ kq = 3 ∨ kq = 4 ∨ kq = 5 ∨ kq = 6 ∨ kq = 7 ∨ kq = 8 ∨ kq = 9 ∨ kq = 10 ∨ kq = 11 := by omega
    rcases hcase with rfl | rfl | rfl | rfl | rfl | rfl | rfl | rfl | rfl | rfl | rfl | rfl
    ·clear hp
     exact ⟨_, rfl, .inl ⟨wanted_none rfl, fa_sherdref37_Packet_0 rfl ((hs 8 rfl).trans ev8)⟩⟩
    ·obtain ⟨k0, -⟩ := hp
     exact ⟨_, rfl, .inl ⟨wanted_none rfl, ld_int rfl k0 (HX86.out.below hBo) rfl⟩⟩
    ·clear hp
     exact ⟨_, rfl, .inl ⟨wanted_none rfl, op_mv (s := SC _) rfl ((hs 0 rfl).trans ev0)⟩⟩
    ·obtain ⟨k0, -⟩ := hp
     exact ⟨_, rfl, .inl ⟨wanted_none rfl, op_nil rfl k0⟩⟩
    ·obtain ⟨k0, -⟩ := hp
     exact ⟨_, rfl, .inl ⟨wanted_none rfl, fa_sherdref37_End_4 rfl k0⟩⟩
    ·obtain ⟨k0, -⟩ := hp
     exact ⟨_, rfl, .inl ⟨wanted_none rfl, ld_int rfl k0 (HX6.out.below hBo) rfl⟩⟩
    ·obtain ⟨k0, k1, -⟩ := hp
     have e0 : a.eval (.tmp 77) = .int .i64 p := k0
     simp [Act.eval] at e0
     have e1 : a.eval (.tmp 81) = .int .i64 got := k1
     simp [Act.eval] at e1
     exact ⟨_, rfl, .inl ⟨wanted_none rfl, Does.val (by simp [execOp, Act.eval, e0, e1, go_sem, hpg]) rfl⟩⟩
    ·obtain ⟨k0, -⟩ := hp
     exact ⟨_, rfl, .inl ⟨wanted_none rfl, op_mv (s := SC _) rfl k0⟩⟩
    ·obtain ⟨k0, -⟩ := hp
     have hgd : a.eval (.tmp 83) = .bool false := k0
     exact ⟨_, rfl, .inl ⟨(wanted_of rfl rfl hgd).trans rfl, op_mv (s := SC _) rfl ((hs 0 rfl).trans ev0)⟩⟩
    ·obtain ⟨k0, -⟩ := hp
     have hgd : a.eval (.tmp 83) = .bool false := k0
     exact ⟨_, rfl, .inl ⟨(wanted_of rfl rfl hgd).trans rfl, fa_sherdref37_Packet_0 rfl ((hs 8 rfl).trans ev8)⟩⟩
    ·obtain ⟨k0, k1, -⟩ := hp
     have hgd : a.eval (.tmp 83) = .bool false := k1
     exact ⟨_, rfl, .inl ⟨(wanted_of rfl rfl hgd).trans rfl, ld_int rfl k0 (HX86.out.below hBo) rfl⟩⟩
    ·obtain ⟨k0, k1, k4, -⟩ := hp
     have hgd : a.eval (.tmp 83) = .bool false := k4
     exact ⟨_, rfl, .inl ⟨(wanted_of rfl rfl hgd).trans rfl, Does.rc (f := 40) (call2 rfl (fun _ => by simp [go_sem]) k0 k1) (find_ret (HE6.out.below hBo) HHL.out)⟩⟩
   ·intro val wx hB hsp hdis
    have hBo : Below w6.heap.size w6 wx := dB hW_15 hB
    have e7 : val 7 = .bool false := hsp 7 (by omega)
    have e11 : val 11 = .int .i64 (Rn.find held p) := hsp 11 (by omega)
    rw [← HF_.out]
    change wpList _ _ _ [_, _] _ _
    simp only [puts_consT, puts_nilm, vals, List.map_cons, List.map_nil, Nat.zero_add, Nat.reduceAdd, e7, e11, List.setIfInBounds_toArray, List.set_cons_succ, List.set_cons_zero]
    clear hsp hdis HF_ hsz_ hB hW_15 e7 e11 ev0 ev8
    obtain ⟨w6', rfl⟩ : ∃ w6' : World, w6' = wx := ⟨_, rfl⟩
    have HE7 := Lib.hid (HE6.out.below hBo); have HX7 := Lib.hid (HX6.out.below hBo); have HX87 := Lib.hid (HX86.out.below hBo); have HBV7 := Lib.hid (HBV6.out.below hBo)
    have HT7 := Lib.hid ((TT.rel own).trans HT6.out ⟨Tc.of hBo, KB.of hBo⟩)
    clear hBo HE6 HX6 HX86 HBV6 HT6
    rcases hlk : Rn.look held p with _ | x0
    ·rw [Rn.find_none hlk]
     have HLK := Lib.hid hlk; clear hlk
     go_wp2_with fail
     obtain ⟨sv', hv', us', vs', hx', hs', hus', hh', hvs', how'⟩ := HE7.out
     have e' := Bx.inj hx' HX7.out
     simp only [Rn.cells, List.cons.injEq, true_and, and_true] at e'
     obtain ⟨rfl, rfl⟩ := e'
     have HS7 := Lib.hid hs'; have HUS7 := Lib.hid hus'; have HHV7 := Lib.hid (own_n hh' (show held.length = nh from HNH.out.symm)); have HVS7 := Lib.hid hvs'
     obtain ⟨Rh, hRh⟩ : ∃ Rh, Rh = (Value.slice Ah nh ch).ownBlock.toList := ⟨_, rfl⟩
     have HR := Lib.hid (show ∀ k, (Value.slice Ah nh ch).ownBlock = some k → k ∈ Rh from fun k hk => by rw [hRh, hk]; simp)
     have HRT := Lib.hid (show ∀ k ∈ Rh, (Value.slice Ah nh ch).ownBlock = some k from fun k hk => by rw [hRh] at hk; simpa using hk)
     have HRb := Lib.hid (show b ∉ Rh from fun e => HNN.out b (HRT.out b e) rfl)
     have HR8 := Lib.hid (show g8 ∉ Rh from fun e => by have h1 := (HHV.out.lt g8 (HRT.out g8 e)).2; have := HGW.out; omega)
     have HL2 := Lib.hid (show ∀ k ∈ Rh, k < w6'.heap.size from fun k hk => (HHV7.out.lt k (HRT.out k hk)).2)
     have HRS := Lib.hid (show ∀ k, (Value.slice As N cs).ownBlock = some k → k ∉ Rh from fun k hk e => (rend_ne hx' hs' hh').2.2 k hk (HRT.out k e))
     have HNS := Lib.hid (rend_ne hx' hs' hh').1
     clear hx' hs' hus' hh' hvs' how' hRh
     go_upto_region 17 with fail
     generalize hW_17 : w6'.drew = W_17
     refine gen_act ?_
     intro F_ hF_
     have ev0 : F_.eval (.tmp 0) = .pointer (some ⟨b, 0, none⟩) := by rw [← hF_]; rfl
     have ev8 : F_.eval (.tmp 8) = .pointer (some ⟨g8, 0, none⟩) := by rw [← hF_]; rfl
     have hsz_ : ∀ d ∈ ([(90, []), (91, []), (92, [1]), (93, [2]), (94, [3]), (95, []), (96, [5]), (97, []), (98, [7]), (99, [6, 8]), (100, [9]), (101, [4, 10])] : List (Nat × List Nat)).map (·.1), d < F_.tmps.size := by rw [← hF_]; simp
     have HF_ := Lib.hid hF_; clear hF_
     refine wp_flow_tabGT (T := TT Rh) (TT.rel _) true hW_17 12 [(90, []), (91, []), (92, [1]), (93, [2]), (94, [3]), (95, []), (96, [5]), (97, []), (98, [7]), (99, [6, 8]), (100, [9]), (101, [4, 10])] [SC (.pointer (some ⟨b, 0, none⟩)), SC (.pointer (some ⟨b, 0, none⟩)), SC (.pointer (some ⟨b, 0, none⟩)), SC (.pointer (some ⟨b, 5, none⟩)), SC (.slice Ah nh ch), SC (.pointer (some ⟨g8, 0, none⟩)), SC (.int .i64 p), SC (.pointer (some ⟨g8, 2, none⟩)), SC (.slice A2 n2 c2), SC (.agg #[.int .i64 p, .slice A2 n2 c2]), SOneH w6'.heap.size p s, SAppH Rh w6'.heap.size (nh + 1) (held ++ [(p, s)])] [false, false, false, false, false, false, false, false, false, false, false, false] (by kernel_rfl) (by kernel_rfl) (by kernel_rfl) (by kernel_rfl) (by kernel_rfl) hsz_ 11 ⟨SC.mono _, SC.mono _, SC.mono _, SC.mono _, SC.mono _, SC.mono _, SC.mono _, SC.mono _, SC.mono _, SC.mono _, SOneH.mono _ _ _, SAppH.mono _ _ _ _, trivial⟩ ⟨(fun _ _ _ h _ => h), (fun _ _ _ h _ => h), (fun _ _ _ h _ => h), (fun _ _ _ h _ => h), (fun _ _ _ h _ => h), (fun _ _ _ h _ => h), (fun _ _ _ h _ => h), (fun _ _ _ h _ => h), (fun _ _ _ h _ => h), (fun _ _ _ h _ => h), (SOneH.monoT HL2.out), trivial⟩ ?_ ?_
     ·intro kq hkq a wx hB hBb hp hs
      have hBo : TT Rh w6' wx := dT hW_17 hB
      have hcase : kq = 0 ∨ kq = 1 ∨ kq = 2 ∨ kq = 3 ∨ kq = 4 ∨ kq = 5 ∨ kq = 6 ∨ kq = 7 ∨ kq = 8 ∨ kq = 9 ∨ kq = 10 ∨ kq = 11 := by omega
      rcases hcase with rfl | rfl | rfl | rfl | rfl | rfl | rfl | rfl | rfl | rfl | rfl | rfl
      ·clear hp
       exact ⟨_, rfl, .inr ⟨by decide, .inl ⟨wanted_none rfl, op_mv (s := SC _) rfl ((hs 0 rfl).trans ev0)⟩⟩⟩
      ·clear hp
       exact ⟨_, rfl, .inr ⟨by decide, .inl ⟨wanted_none rfl, op_mv (s := SC _) rfl ((hs 0 rfl).trans ev0)⟩⟩⟩
      ·obtain ⟨k0, -⟩ := hp
       exact ⟨_, rfl, .inr ⟨by decide, .inl ⟨wanted_none rfl, op_nil rfl k0⟩⟩⟩
      ·obtain ⟨k0, -⟩ := hp
       exact ⟨_, rfl, .inr ⟨by decide, .inl ⟨wanted_none rfl, fa_sherdref37_End_5 rfl k0⟩⟩⟩
      ·obtain ⟨k0, -⟩ := hp
       exact ⟨_, rfl, .inr ⟨by decide, .inl ⟨wanted_none rfl, ld___sherdref37_Held rfl k0 (HX7.out.tc hBo.1 HRb.out) rfl⟩⟩⟩
      ·clear hp
       exact ⟨_, rfl, .inr ⟨by decide, .inl ⟨wanted_none rfl, fa_sherdref37_Packet_0 rfl ((hs 8 rfl).trans ev8)⟩⟩⟩
      ·obtain ⟨k0, -⟩ := hp
       exact ⟨_, rfl, .inr ⟨by decide, .inl ⟨wanted_none rfl, ld_int rfl k0 (HX87.out.tc hBo.1 HR8.out) rfl⟩⟩⟩
      ·clear hp
       exact ⟨_, rfl, .inr ⟨by decide, .inl ⟨wanted_none rfl, fa_sherdref37_Packet_2 rfl ((hs 8 rfl).trans ev8)⟩⟩⟩
      ·obtain ⟨k0, -⟩ := hp
       exact ⟨_, rfl, .inr ⟨by decide, .inl ⟨wanted_none rfl, ld___uint8 rfl k0 (HX87.out.tc hBo.1 HR8.out) rfl⟩⟩⟩
      ·obtain ⟨k0, k1, -⟩ := hp
       have e0 : a.eval (.tmp 96) = .int .i64 p := k0
       simp [Act.eval] at e0
       have e1 : a.eval (.tmp 98) = .slice A2 n2 c2 := k1
       simp [Act.eval] at e1
       exact ⟨_, rfl, .inr ⟨by decide, .inl ⟨wanted_none rfl, Does.val (by simp [execOp, Act.eval, e0, e1, go_sem]) rfl⟩⟩⟩
      ·obtain ⟨k0, -⟩ := hp
       exact ⟨_, rfl, .inr ⟨by decide, .inl ⟨wanted_none rfl, op_oneH rfl k0 (HBV7.out.kb hBo.2) hBo.1.size⟩⟩⟩
      ·obtain ⟨k0, k1, -⟩ := hp
       obtain ⟨gr, vr, er, hgr, hr, hvr⟩ := k1
       have hBk : Below w6'.heap.size w6' wx := dB hW_17 (hBb rfl)
       exact ⟨_, rfl, .inl ⟨rfl, .inl ⟨wanted_none rfl, op_appH rfl k0 er (own_below HHV7.out hBk) HNH.out (HVS7.out.kb (.of hBk)) hr hvr (by have := HHL9.out; have := HNH.out; omega) HR.out hBk.size⟩⟩⟩
     ·intro val wx hB hsp hdis
      have hBo : TT Rh w6' wx := dT hW_17 hB
      have e0 : val 0 = .pointer (some ⟨b, 0, none⟩) := hsp 0 (by omega)
      have h11 : (SAppH Rh w6'.heap.size (nh + 1) (held ++ [(p, s)])) wx (val 11) := hsp 11 (by omega)
      generalize e11 : val 11 = u11 at h11
      rw [← HF_.out]
      change wpList _ _ _ [_, _, _] _ _
      simp only [puts_consT, puts_nilm, vals, List.map_cons, List.map_nil, Nat.zero_add, Nat.reduceAdd, e0, e11, List.setIfInBounds_toArray, List.set_cons_succ, List.set_cons_zero]
      clear hsp hdis HF_ hsz_ hB hW_17 e0 e11 ev0 ev8
      obtain ⟨vs7, ho7, hv7, kc⟩ := h11
      obtain ⟨Av, cv, rfl, -⟩ := own_form ho7
      have HO8 := Lib.hid ho7; have HV8 := Lib.hid hv7
      have HX8_ := Lib.hid (HX7.out.tc hBo.1 HRb.out)
      have HS8 := Lib.hid (show wx.ownsRow 0 33 1 (.slice As N cs) N us' from own_tcR (own_n HS7.out HN.out.symm) hBo.1 HRS.out)
      have HUS8 := Lib.hid (HUS7.out.kb hBo.2)
      have HT8 := Lib.hid (show TT own w wx from (TT.rel own).trans HT7.out ⟨hBo.1.mono (fun k hk => by
       rw [HOWN.out]
       exact List.mem_append.2 (.inr (by rw [HRT.out k hk]; simp))), hBo.2⟩)
      have HBK8 := Lib.hid (show ∀ k, (Value.slice Av (nh + 1) cv).ownBlock = some k → k ∈ own ∨ w.heap.size ≤ k from fun k hk => by
       rcases kc k hk with h | h
       ·refine .inl ?_
        rw [HOWN.out]
        exact List.mem_append.2 (.inr (by rw [HRT.out k h]; simp))
       ·exact .inr (Nat.le_trans HT7.out.1.size h))
      obtain ⟨c0, c1, c2', c3, c4, c5, c6, c7, z, l0⟩ := HX8_.out.f8
      clear ho7 hv7 kc hBo HE7 HX7 HX87 HBV7 HT7 HS7 HUS7 HHV7 HVS7
      go_wp2_with fail
      generalize hW9 : wx.setCell _ _ = w9
      have HBW := Lib.hid HX0.out.lt
      have HBO := Lib.hid (show b ∈ own by rw [HOWN.out]; simp)
      have HSO := Lib.hid (show ∀ k, (Value.slice As N cs).ownBlock = some k → k ∈ own ∧ k < w.heap.size from fun k hk => ⟨by rw [HOWN.out]; exact List.mem_append.2 (.inl (by simp [hk])), (HSV.out.lt k hk).2⟩)
      obtain ⟨K0, hK0⟩ : ∃ K0, K0 = K.dlv (held.length + 1) (Rn.E.k ⟨win, key, sent, M, got, held ++ [(p, s)], true, forged⟩) := ⟨_, rfl⟩
      have HRK := Lib.hid (show r = (K0.1, 0, K0.2) by
       rw [HRES.out, Rn.into_new HOK.out (by show q ≤ (sent.length : Int); rw [← HN.out]; exact hqN) hpg16 HP0.out hpg HLK.out, hK0, HMM.out])
      have HNV := Lib.hid (rend_ne HX8_.out HS8.out HO8.out).2.1
      have HREL := Lib.hid (show RDAt K0 b own ⟨win, key, sent, M, got, held, true, forged⟩ (.slice As N cs) us' w (nh + 1) (.slice none 0 0) w9 by
       rw [← hW9]
       exact ⟨held ++ [(p, s)], vs7, got, .slice Av (nh + 1) cv, [], [], by rw [List.length_append, ← HNH.out]; rfl, Rn.nd_app HHK.out.nd HLK.out, HX8_.out.setAs rfl, row_set (own_n HS8.out HN.out) HNS.out _, HUS8.out.kb ((KB.refl _).set_ HX8_.out (by decide) _), row_set (own_n HO8.out (by rw [List.length_append, ← HNH.out]; rfl)) HNV.out _, HV8.out.kb ((KB.refl _).set_ HX8_.out (by decide) _), HBK8.out, World.ownsRow_nil _ _ _ _, Vs.nil _, ⟨HT8.out.1.set_ (.inl HBO.out) _, HT8.out.2.set_ HX8_.out (by decide) _⟩, d1, by have := HHL9.out; have := HNH.out; omega, by have := HHL9.out; have := HNH.out; simp; omega, by rw [hK0, ← HNH.out]; rfl⟩)
      have HHN := Lib.hid (show nh ≤ 900000000 by have := HHL9.out; have := HNH.out; omega)
      clear hK0 hW9 HX8_ HS8 HUS8 HO8 HV8 HT8 HBK8 HNV HNS HRT HRS HR HRb HR8 HL2 HNN HSV HUS HHV HVS HX0 HE HOP HRR HRD HER HRES HMM HLK hqN hpg16 hpg hw2 c0 c1 c2' c3 c4 c5 c6 c7 z l0 HGW HGN HN2 HHK HOK HHL HHL9 HNH HP0 a1 a2 d1 d2 f1 f2 hsl hal hp0 hq0 hpm hqm hs1
      go_loopg [10] (nh + 1) (fun gk s10 wr => RDAt K0 b own ⟨win, key, sent, M, got, held, true, forged⟩ (.slice As N cs) us' w gk s10 wr)
      case atStart => exact HREL.out
      case round =>
       clear HREL
       obtain ⟨hs, vs9, got9, hv9, os, o, hlen, hnd, hx9, hs9, hus9, hh9, hvs9, hhb, ho9, hos, hT9, hg0, hg1, hol, hK⟩ := hrel
       simp only [Rn.cells] at hx9
       obtain ⟨Ah9, nh9, ch9, rfl⟩ : ∃ A n c, hv9 = .slice A n c := by obtain ⟨A, c, e, -⟩ := own_form hh9; exact ⟨A, _, c, e⟩
       have HNH9 := Lib.hid (show nh9 = hs.length by obtain ⟨A, c, e, -⟩ := own_form hh9; injection e)
       obtain ⟨A3, n3, c3, rfl⟩ : ∃ A n c, u10 = .slice A n c := by obtain ⟨A, c, e, -⟩ := own_form ho9; exact ⟨A, _, c, e⟩
       have HN3 := Lib.hid (show n3 = o.length by obtain ⟨A, c, e, -⟩ := own_form ho9; injection e)
       have hbd : got9 ≤ 2000000000 := by omega
       have hgkb : gk ≤ 1000000000 := by omega
       have HLN := Lib.hid hlen
       have HHS := Lib.hid (show hs.length ≤ 1000000000 by omega)
       obtain ⟨Re, hRe⟩ : ∃ Re : Rn.E, Re = ⟨win, key, sent, M, got9, hs, true, forged⟩ := ⟨_, rfl⟩
       have hRE : REnd wr b (b :: (Value.slice As N cs).ownBlock.toList ++ (Value.slice Ah9 nh9 ch9).ownBlock.toList) Re := by subst hRe; exact ⟨_, _, us', vs9, hx9, hs9, hus9, hh9, hvs9, rfl⟩
       have hRh : Re.held = hs := by rw [hRe]
       have HRE := Lib.hid hRE; have HREQ := Lib.hid hRe
       have HX9 := Lib.hid hx9; have HS9 := Lib.hid hs9; have HUS9 := Lib.hid hus9; have HH9 := Lib.hid hh9; have HVS9 := Lib.hid hvs9; have HHB := Lib.hid hhb; have HO9 := Lib.hid ho9; have HOS := Lib.hid hos; have HT9 := Lib.hid hT9; have HKD := Lib.hid hK; have HND := Lib.hid hnd; have HOL := Lib.hid hol
       have hw9 : IntKind.i64.wrap (got9 + 1) = got9 + 1 := by rw [IntKind.wrap_i64]; omega
       obtain ⟨c0, c1, c2', c3', c4, c5, c6, c7, z, l0⟩ := hx9.f8
       have hfd := find_any b _ Re (got9 + 1) wr hRE (by rw [hRh]; exact HHS.out)
       rw [hRh] at hfd
       clear hx9 hs9 hus9 hh9 hvs9 hhb ho9 hos hT9 hK hnd hol hRE hRe hRh hlen
       rcases hlk : Rn.look hs (got9 + 1) with _ | l9
       ·rw [Rn.find_none hlk] at hfd
        have HFD := Lib.hid hfd; have HLK := Lib.hid hlk
        clear hfd hlk
        go_wp2_with fail
        refine HFD.out.mono ?_
        rintro e w9' ⟨rfl, rfl⟩
        go_wp2
        go_ret2
        rw [HRK.out, HKD.out, K.dlv_none (show (Rn.E.k ⟨win, key, sent, M, got9, hs, true, forged⟩).held ((Rn.E.k ⟨win, key, sent, M, got9, hs, true, forged⟩).del + 1) = none from HLK.out), List.append_nil]
        refine ⟨_, _, ⟨win, key, sent, M, got9, hs, true, forged⟩, rfl, RowV.of HO9.out HOS.out, rfl, rfl, ⟨HND.out, HLK.out⟩, HREQ.out ▸ HRE.out, HT9.out, fun x hx => ?_⟩
        simp only [List.cons_append, List.mem_cons, List.mem_append, Option.mem_toList] at hx
        rcases hx with rfl | hx | hx
        ·exact .inl HBO.out
        ·exact .inl (HSO.out x hx).1
        ·exact HHB.out x hx
       ·obtain ⟨i, hf, hi, hil⟩ := Rn.find_some hlk
        rw [hf] at hfd
        have HFD := Lib.hid hfd; have HLK := Lib.hid hlk; have HI := Lib.hid hi
        have hib : i < nh9 := by rw [HNH9.out]; exact hil
        clear hfd hlk hf hi hil
        go_wp2_with fail
        refine HFD.out.mono ?_
        rintro e w9' ⟨rfl, rfl⟩
        go_wp2_with fail
        refine HFD.out.mono ?_
        rintro e w9' ⟨rfl, rfl⟩
        obtain ⟨ul, hul⟩ : ∃ u, vs9[i]? = some u := ⟨vs9[i]'(by rw [HVS9.out.1, List.length_map, ← HNH9.out]; exact hib), List.getElem?_eq_getElem _⟩
        have hbl := HVS9.out.2 i ul l9 hul (by rw [List.getElem?_map, HI.out]; rfl)
        obtain ⟨gh, ch', e9, hch9, hcm9, -⟩ := own_pos (own_n HH9.out HNH9.out.symm) (by omega)
        injection e9 with e9a _ e9c
        subst e9a; subst e9c
        have HBL := Lib.hid hbl
        obtain ⟨Au, cu, rfl, -⟩ := hbl
        obtain ⟨nu, hnu⟩ : ∃ n, n = l9.length := ⟨_, rfl⟩
        rw [← hnu] at HBL hul
        have hcell := own_cells (own_n HH9.out HNH9.out.symm) (i * 2 + 1) _ (Rn.hc_get hs vs9 i _ _ HI.out hul).2
        rw [Addr.add_lit, Nat.zero_add] at hcell
        have hi3 : (i : Int) < (nh9 : Int) := by omega
        have hi4 : (0 : Int) ≤ (i : Int) := by omega
        clear hul hnu
        go_wp2_with (at_builtin; refine wpList_app rfl (.tmp 119) (.tmp 128) rfl rfl rfl (g := wr.heap.size) (base := w.heap.size) (by have := HT9.out.1.size; simp; omega) ((own_n HO9.out HN3.out.symm).alloc _) (HOS.out.kb (.of ((Below.refl _ _).alloc (Nat.le_refl _) _))) (Bx.at_ rfl) (HBL.out.alloc _) (by have := HOL.out; have := HN3.out; omega) ?_)
        intro va wa ha1 ha2 ha3 ha4
        obtain ⟨Aa, ca, rfl, -⟩ := own_form ha1
        have HXa := Lib.hid (Bx.keptR (HX9.out.alloc (.cells #[.slice Au nu cu] 33)) ha2 (fun e => by have h1 := (HO9.out.lt b e.symm).1; have := HBW.out; omega))
        have HHa := Lib.hid (own_keptR ((own_n HH9.out HNH9.out.symm).alloc (.cells #[.slice Au nu cu] 33)) ha2 (fun k hk e => (rend_ne HX9.out (own_base HO9.out (Nat.zero_le _)) HH9.out).2.2 k e.symm hk))
        have HSa := Lib.hid (own_keptR (HS9.out.alloc (.cells #[.slice Au nu cu] 33)) ha2 (fun k hk e => by have h1 := (HO9.out.lt k e.symm).1; have := (HSO.out k hk).2; omega))
        have hka : KB wr wa := (KB.of ((Below.refl _ _).alloc (Nat.le_refl _) _)).trans ha3
        have HUSa := Lib.hid (HUS9.out.kb hka); have HVSa := Lib.hid (HVS9.out.kb hka)
        have HTa := Lib.hid (show TT own w wa from ⟨HT9.out.1.grown ((World.grownBy_alloc wr _ _).trans ha2) (fun k hk => .inr (HO9.out.lt k hk).1), HT9.out.2.trans hka⟩)
        have HOa := Lib.hid ha1; have HOSa := Lib.hid ha4
        clear ha1 ha2 ha3 ha4 hka HX9 HH9 HS9 HUS9 HVS9 HT9 HO9 HOS HRE HBL hcell c0 c1 c2' c3' c4 c5 c6 c7 z l0
        obtain ⟨c0, c1, c2', c3', c4, c5, c6, c7, z, l0⟩ := HXa.out.f8
        obtain ⟨Na, hNa⟩ : ∃ Na, Na = n3 + 1 := ⟨_, rfl⟩
        rw [← hNa] at HOa ⊢
        have HNa := Lib.hid (show Na = (o ++ [l9]).length by rw [hNa, HN3.out, List.length_append]; rfl); clear hNa
        have HTK := Lib.hid (show ∀ j u, (Rn.hc (hs.take i) (vs9.take i))[j]? = some u → wa.cell? ((⟨gh, 0, none⟩ : Addr).add j) = some u from fun j u hu => by
         rw [← Rn.hc_take, List.getElem?_take] at hu
         split at hu
         ·exact own_cells HHa.out j u hu
         ·cases hu)
        go_wp2_with (at_builtin; refine wpList_appH (m := i) (p := ⟨gh, 0, none⟩) (hs := []) (us := []) (ks := hs.take i) (ts := vs9.take i) rfl (.tmp 130) (.tmp 136) rfl rfl rfl (World.ownsRow_nil _ _ _ _) rfl (Vs.nil _) (by rw [List.length_take]; have := HNH9.out; omega) (by rw [List.map_take]; exact HVSa.out.take i) HTK.out (by have := HNH9.out; have := HHS.out; omega) ?_)
        intro vl wl hl1 hl2 hl3 hl4 hl5
        obtain ⟨Al, cl, rfl, -⟩ := own_form hl1
        have HXl := Lib.hid (Bx.keptR HXa.out hl2 (by simp [Value.ownBlock]))
        have HHl := Lib.hid (own_keptR HHa.out hl2 (by simp [Value.ownBlock]))
        have HSl := Lib.hid (own_keptR HSa.out hl2 (by simp [Value.ownBlock]))
        have HOl := Lib.hid (own_keptR HOa.out hl2 (by simp [Value.ownBlock]))
        have HUSl := Lib.hid (HUSa.out.kb hl3); have HVSl := Lib.hid (HVSa.out.kb hl3); have HOSl := Lib.hid (HOSa.out.kb hl3)
        have HTl := Lib.hid (show TT own w wl from ⟨HTa.out.1.grown hl2 (by simp [Value.ownBlock]), HTa.out.2.trans hl3⟩)
        have HLB := Lib.hid (show ∀ k, (Value.slice Al i cl).ownBlock = some k → wa.heap.size ≤ k from fun k hk => by
         rcases hl5 k hk with h | h
         ·simp [Value.ownBlock] at h
         ·exact h)
        have HL1 := Lib.hid hl1; have HL4 := Lib.hid hl4
        have HOA := Lib.hid (show ∀ k, (Value.slice Aa Na ca).ownBlock = some k → k < wa.heap.size from fun k hk => (HOa.out.lt k hk).2)
        have HWA := Lib.hid (show w.heap.size ≤ wa.heap.size from HTa.out.1.size)
        clear hl1 hl2 hl3 hl4 hl5 HXa HHa HSa HOa HUSa HVSa HOSa HTa HTK c0 c1 c2' c3' c4 c5 c6 c7 z l0
        obtain ⟨c0, c1, c2', c3', c4, c5, c6, c7, z, l0⟩ := HXl.out.f8
        have hwi : IntKind.i64.wrap ((i : Int) + 1) = (i : Int) + 1 := by rw [IntKind.wrap_i64]; have := HHS.out; have := HNH9.out; omega
        have HD := Lib.hid (held_drop HHl.out (i + 1))
        have HDL := Lib.hid (show ((hs.drop (i + 1)).map (·.2)) = (hs.map (·.2)).drop (i + 1) from List.map_drop.symm ▸ rfl)
        have hi5 : (0 : Int) ≤ (i : Int) + 1 := by omega
        by_cases hce : ch9 = i + 1
        ·obtain rfl : nh9 = i + 1 := by omega
         subst hce
         go_wp2_with (at_builtin; refine wpList_appH (hs := hs.take i) (us := vs9.take i) (ks := hs.drop (i + 1)) (ts := vs9.drop (i + 1)) rfl (.tmp 139) (.tmp 146) rfl rfl rfl HL1.out (by rw [List.length_take]; have := HNH9.out; omega) (by rw [List.map_take]; exact HL4.out) (by rw [List.length_drop, ← HNH9.out]; simp) (by rw [HDL.out]; exact HVSl.out.drop _) (fun j u hu => by
          have e : hs.drop (i + 1) = [] := List.drop_eq_nil_of_le (by have := HNH9.out; omega)
          rw [e] at hu
          simp [Rn.hc] at hu) (by have := HHS.out; have := HNH9.out; omega) ?_)
         intro v9 w9 hm1 hm2 hm3 hm4 hm5
         obtain ⟨A9, c9, rfl, -⟩ := own_form hm1
         have hx9 := Bx.keptR HXl.out hm2 (fun e => by have := HLB.out b e.symm; have := HBW.out; have := HWA.out; omega)
         have HX9 := Lib.hid hx9
         have HM1 := Lib.hid hm1; have HM4 := Lib.hid hm4
         have HS9 := Lib.hid (own_keptR HSl.out hm2 (fun k hk e => by have := HLB.out k e.symm; have := (HSO.out k hk).2; have := HWA.out; omega))
         have HO9 := Lib.hid (own_keptR HOl.out hm2 (fun k hk e => by have h1 := HLB.out k e.symm; have := HOA.out k hk; omega))
         have HUS9 := Lib.hid (HUSl.out.kb hm3); have HOS9 := Lib.hid (HOSl.out.kb hm3)
         have HT9 := Lib.hid (show TT own w w9 from ⟨HTl.out.1.grown hm2 (fun k hk => .inr (Nat.le_trans HWA.out (HLB.out k hk))), HTl.out.2.trans hm3⟩)
         have HV9 := Lib.hid (show ∀ k, (Value.slice A9 (i + 0) c9).ownBlock = some k → k ∈ own ∨ w.heap.size ≤ k from fun k hk => by
          rcases hm5 k hk with h | h
          ·exact .inr (Nat.le_trans HWA.out (HLB.out k h))
          ·exact .inr (Nat.le_trans HTl.out.1.size h))
         clear hm1 hm2 hm3 hm4 hm5 c0 c1 c2' c3' c4 c5 c6 c7 z l0
         obtain ⟨c0, c1, c2', c3', c4, c5, c6, c7, z, l0⟩ := hx9.f8
         have HX9B := Lib.hid (hx9.setAs (i := 5) (x := .slice A9 (i + 0) c9) (l' := [.int .i64 win, .int .u64 key, .slice As N cs, .int .i64 M, .int .i64 got9, .slice A9 (i + 0) c9, .bool true, .int .i64 forged]) rfl)
         clear hx9
         go_upto_region 25 with fail
         have HY := HX9B
         generalize hWB : w9.setCell _ _ = wB at HY ⊢
         have HWB := Lib.hid hWB
         clear hWB c0 c1 c2' c3' c4 c5 c6 c7 z l0
         obtain ⟨c0, c1, c2', c3', c4, c5, c6, c7, z, l0⟩ := HY.out.f8
         obtain ⟨m, rfl⟩ : ∃ m, gk = m + 1 := ⟨gk - 1, by have := HLN.out; have := HNH9.out; omega⟩
         go_wp2
         rw [← HWB.out]
         go_roundg m
         case rel => exact rd_step (R := ⟨win, key, sent, M, got, held, true, forged⟩) HLN.out HND.out HI.out HX9.out HM1.out (by have := HLN.out; have := HNH9.out; omega) (by rw [List.map_append, List.map_take, List.map_drop]; exact HM4.out) HS9.out HUS9.out HO9.out HNa.out HOS9.out HT9.out HBO.out HBW.out HV9.out hg0 hg1 HOL.out HKD.out HLK.out
         case measure => omega
        ·have hi6 : (i : Int) + 1 ≤ (nh9 : Int) := by omega
         go_wp2_with (at_builtin; refine wpList_appH (hs := hs.take i) (us := vs9.take i) (ks := hs.drop (i + 1)) (ts := vs9.drop (i + 1)) rfl (.tmp 139) (.tmp 146) rfl rfl rfl HL1.out (by rw [List.length_take]; have := HNH9.out; omega) (by rw [List.map_take]; exact HL4.out) (by rw [List.length_drop, ← HNH9.out]) (by rw [HDL.out]; exact HVSl.out.drop _) HD.out (by have := HHS.out; have := HNH9.out; omega) ?_)
         intro v9 w9 hm1 hm2 hm3 hm4 hm5
         obtain ⟨A9, c9, rfl, -⟩ := own_form hm1
         have hx9 := Bx.keptR HXl.out hm2 (fun e => by have := HLB.out b e.symm; have := HBW.out; have := HWA.out; omega)
         have HX9 := Lib.hid hx9
         have HM1 := Lib.hid hm1; have HM4 := Lib.hid hm4
         have HS9 := Lib.hid (own_keptR HSl.out hm2 (fun k hk e => by have := HLB.out k e.symm; have := (HSO.out k hk).2; have := HWA.out; omega))
         have HO9 := Lib.hid (own_keptR HOl.out hm2 (fun k hk e => by have h1 := HLB.out k e.symm; have := HOA.out k hk; omega))
         have HUS9 := Lib.hid (HUSl.out.kb hm3); have HOS9 := Lib.hid (HOSl.out.kb hm3)
         have HT9 := Lib.hid (show TT own w w9 from ⟨HTl.out.1.grown hm2 (fun k hk => .inr (Nat.le_trans HWA.out (HLB.out k hk))), HTl.out.2.trans hm3⟩)
         have HV9 := Lib.hid (show ∀ k, (Value.slice A9 (i + (nh9 - (i + 1))) c9).ownBlock = some k → k ∈ own ∨ w.heap.size ≤ k from fun k hk => by
          rcases hm5 k hk with h | h
          ·exact .inr (Nat.le_trans HWA.out (HLB.out k h))
          ·exact .inr (Nat.le_trans HTl.out.1.size h))
         clear hm1 hm2 hm3 hm4 hm5 c0 c1 c2' c3' c4 c5 c6 c7 z l0
         obtain ⟨c0, c1, c2', c3', c4, c5, c6, c7, z, l0⟩ := hx9.f8
         have HX9B := Lib.hid (hx9.setAs (i := 5) (x := .slice A9 (i + (nh9 - (i + 1))) c9) (l' := [.int .i64 win, .int .u64 key, .slice As N cs, .int .i64 M, .int .i64 got9, .slice A9 (i + (nh9 - (i + 1))) c9, .bool true, .int .i64 forged]) rfl)
         clear hx9
         go_upto_region 25 with fail
         have HY := HX9B
         generalize hWB : w9.setCell _ _ = wB at HY ⊢
         have HWB := Lib.hid hWB
         clear hWB c0 c1 c2' c3' c4 c5 c6 c7 z l0
         obtain ⟨c0, c1, c2', c3', c4, c5, c6, c7, z, l0⟩ := HY.out.f8
         obtain ⟨m, rfl⟩ : ∃ m, gk = m + 1 := ⟨gk - 1, by have := HLN.out; have := HNH9.out; omega⟩
         go_wp2
         rw [← HWB.out]
         go_roundg m
         case rel => exact rd_step (R := ⟨win, key, sent, M, got, held, true, forged⟩) HLN.out HND.out HI.out HX9.out HM1.out (by have := HLN.out; have := HNH9.out; omega) (by rw [List.map_append, List.map_take, List.map_drop]; exact HM4.out) HS9.out HUS9.out HO9.out HNa.out HOS9.out HT9.out HBO.out HBW.out HV9.out hg0 hg1 HOL.out HKD.out HLK.out
         case measure => omega
    ·obtain ⟨i0, hf0, -, -⟩ := Rn.find_some hlk
     rw [hf0]
     have HLK := Lib.hid hlk; clear hlk hf0
     have hi0 : (0 : Int) ≤ (i0 : Int) := by omega
     go_wp2
     go_ret2
     rw [HRES.out, Rn.into_old HOK.out HHK.out (by show q ≤ (sent.length : Int); rw [← HN.out]; exact hqN) hpg16 HP0.out (.inr (by show Rn.look held p ≠ none; rw [HLK.out]; simp))]
     exact RRIn.same (R' := ⟨win, key, sent, M, got, held, true, forged⟩) (by rw [HMM.out]) rfl ⟨HHK.out.nd, HHK.out.f⟩ HE7.out HT7.out
end Go.Proofs.Ytgdibcgphjmofaa
