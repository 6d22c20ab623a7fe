/-
 THE WALK of lives: the example of the section.
-/
import Derived.Test.YtgdibcgphjmofaaLnkY
import Derived.Lib.SlBytesConst
namespace Go.Proofs.Ytgdibcgphjmofaa
set_option maxHeartbeats 2000000
open Go.RowKit
open Go.Maps
set_option linter.unusedVariables false
theorem same_bv {w : World} {u v : Value} {a b : List UInt8} (hu : BV w u a) (hv : BV w v b) : Calls Try.prog 29 #[u, v] w (Quiet (.bool (decide (a = b))) w) := by
 obtain ⟨A, c, rfl, h1, h2, h3, _⟩ := hu
 obtain ⟨B, d, rfl, g1, g2, g3, _⟩ := hv
 exact same_any a b A B a.length b.length c d _ _ w h3 g3 rfl rfl (by omega)
/-- One byte, in a new row. -/
theorem bv_lit (w : World) (c : UInt8) {x : Value} (fr : Nat × Nat) (hx : x = .int .u8 (c.toNat : Int) := by rfl) : BV (w.alloc (.cells #[x] 5 fr)) (.slice (some ⟨w.heap.size, 0, none⟩) 1 1) [c] := by
 subst hx
 have hb : (w.alloc (.cells #[.int .u8 (c.toNat : Int)] 5 fr)).heap[w.heap.size]? = some (.cells #[.int .u8 (c.toNat : Int)] 5 fr) := heap_alloc_new w _
 refine ⟨_, 1, rfl, Nat.le_refl _, by decide, fun _ => ⟨_, 0, rfl, by simp, fun j u hu => ?_⟩, fun _ => ⟨_, 0, _, _, rfl, hb⟩⟩
 rw [Nat.zero_add, cell_of_row _ _ _ _ _ _ hb]
 simpa [W.bc, W.bcell] using hu
theorem run_conv_lit (x : Value) (w : World) : (convert 33 33 (.slice (some ⟨w.heap.size, 0, none⟩) 1 1)).run Try.prog (w.alloc (.cells #[x] 5)) = .ok (.slice (some ⟨w.heap.size, 0, none⟩) 1 1) (w.alloc (.cells #[x] 5 (1, 2))) :=
 Lib.run_convert_bytes_const (P := Try.prog) w 33 5 #[x] 1 1 Try.underlying33 Try.underlying5
theorem K.inn_sealed {S : K.E} {p q : Int} {s : List UInt8} (hp : W.Is64 p) (hq : W.Is64 q) (h : K.okP p q s.length) : K.inn S (K.sealed S.key (K.pk p q s)) = K.into S p q s := by
 unfold K.inn
 rw [K.unseal_sealed, if_neg (by simp), K.read_pk hp hq h]
theorem two_new {w w1 w2 : World} {ba bb : Nat} {oa ob : List Nat} {Sa Sb : K.E} (h1 : EndAt w1 ba oa Sa) (hb1 : Below w.heap.size w w1) (ha : ∀ x ∈ oa, w.heap.size ≤ x) (h2 : EndAt w2 bb ob Sb) (hb2 : Below w1.heap.size w1 w2) (hb : ∀ x ∈ ob, w1.heap.size ≤ x) :
  Two w.heap.size [] w2 ba bb Sa Sb := by
 refine ⟨oa, ob, h1.below hb2, h2, fun x hx hy => ?_, fun x hx => ⟨ha x hx, by simp⟩, fun x hx => ⟨by have := hb x hx; have := hb1.size; omega, by simp⟩, by simp⟩
 have := hb x hy; have := h1.lt x hx; omega
/-- The states of the example. -/
def Lv.a3 : K.E := { K.E0 2 9 with wait := [[97], [98], [99]] }
def Lv.b1 : K.E := { K.E0 2 9 with owing := true, held := fun k => if k = 2 then some [98] else none, cnt := 1 }
def Lv.pk1 : List UInt8 := K.sealed 9 (K.pk 1 0 [97])
def Lv.pk2 : List UInt8 := K.sealed 9 (K.pk 2 0 [98])
def Lv.ack : List UInt8 := K.sealed 9 (K.pk 0 2 [])
def Lv.pk3 : List UInt8 := K.sealed 9 (K.pk 3 0 [99])
theorem Lv.ok0 : K.ok (K.E0 2 9) := ⟨by decide, by decide, by decide, by decide, by decide, by decide, by decide, by decide, by decide, by simp [K.E0], by decide, by decide⟩
theorem Lv.ok3 : K.ok Lv.a3 := ⟨by decide, by decide, by decide, by decide, by decide, by decide, by decide, by decide, by decide, by decide, by decide, by decide⟩
theorem Lv.ok1 : K.ok Lv.b1 := ⟨by decide, by decide, by decide, by decide, by decide, by decide, by decide, by decide, by decide, by simp [Lv.b1, K.E0], by decide, by decide⟩
theorem Lv.out3 : K.out Lv.a3 = [Lv.pk1, Lv.pk2] := by
 have h : K.outN Lv.a3 = 2 := by decide
 unfold K.out
 rw [h, if_neg (by decide)]
 rfl
theorem i64 {k : Int} (h0 : 0 ≤ k) (h1 : k ≤ 1000000) : W.Is64 k := by unfold W.Is64; omega
theorem Lv.in2 : K.inn (K.E0 2 9) Lv.pk2 = ([], 0, Lv.b1) := by
 have h := K.inn_sealed (S := K.E0 2 9) (p := 2) (q := 0) (s := [98]) (i64 (by omega) (by omega)) (i64 (by omega) (by omega)) (by decide)
 refine (show K.inn (K.E0 2 9) Lv.pk2 = _ from h).trans ?_
 rfl
theorem Lv.in1 : ∃ S, K.inn Lv.b1 Lv.pk1 = ([[97], [98]], 0, S) ∧ S.win = 2 ∧ S.key = 9 ∧ S.wait = [] ∧ S.acked = 0 ∧ S.del = 2 ∧ S.owing = true ∧ S.forged = 0 ∧ S.cnt = 0 := by
 have h := K.inn_sealed (S := Lv.b1) (p := 1) (q := 0) (s := [97]) (i64 (by omega) (by omega)) (i64 (by omega) (by omega)) (by decide)
 refine ⟨_, (show K.inn Lv.b1 Lv.pk1 = _ from h).trans rfl, rfl, rfl, rfl, rfl, rfl, rfl, rfl, rfl⟩
def Lv.b2 : K.E := (K.inn Lv.b1 Lv.pk1).2.2
def Lv.a4 : K.E := { Lv.a3 with wait := [[99]], acked := 2 }
theorem Lv.in1b : K.inn Lv.b1 Lv.pk1 = ([[97], [98]], 0, Lv.b2) := by
 obtain ⟨S, h, _⟩ := Lv.in1
 unfold Lv.b2
 rw [h]
theorem Lv.ok2 : K.ok Lv.b2 := by
 obtain ⟨S, h, h1, h2, h3, h4, h5, h6, h7, h8⟩ := Lv.in1
 unfold Lv.b2
 rw [h]
 exact ⟨by rw [h1]; decide, by rw [h1]; decide, by rw [h4]; decide, by rw [h4]; decide, by rw [h5]; decide, by rw [h5]; decide, by rw [h7]; decide, by rw [h7]; decide, by rw [h3]; decide, by rw [h3]; simp, by rw [h8]; decide, by rw [h2]; decide⟩
theorem Lv.out2 : K.out Lv.b2 = [Lv.ack] := by
 obtain ⟨S, h, h1, h2, h3, h4, h5, h6, h7, h8⟩ := Lv.in1
 have e : Lv.b2 = S := by unfold Lv.b2; rw [h]
 rw [e]
 unfold K.out K.outN
 rw [h3, h6, h2, h5, if_pos ⟨by simp, rfl⟩]
 rfl
theorem Lv.in3 : K.inn Lv.a3 Lv.ack = ([], 0, Lv.a4) := by
 have h := K.inn_sealed (S := Lv.a3) (p := 0) (q := 2) (s := []) (i64 (by omega) (by omega)) (i64 (by omega) (by omega)) (by decide)
 exact (show K.inn Lv.a3 Lv.ack = _ from h).trans rfl
theorem Lv.ok4 : K.ok Lv.a4 := ⟨by decide, by decide, by decide, by decide, by decide, by decide, by decide, by decide, by decide, by decide, by decide, by decide⟩
theorem Lv.out4 : K.out Lv.a4 = [Lv.pk3] := by
 have h : K.outN Lv.a4 = 1 := by decide
 unfold K.out
 rw [h, if_neg (by decide)]
 rfl
theorem Lv.len1 : Lv.pk1.length ≤ 1000000000000 := by have := K.pk_len 1 0 [97] (by decide); unfold Lv.pk1 K.sealed; rw [List.length_append, K.seal8_len]; omega
theorem Lv.len2 : Lv.pk2.length ≤ 1000000000000 := by have := K.pk_len 2 0 [98] (by decide); unfold Lv.pk2 K.sealed; rw [List.length_append, K.seal8_len]; omega
theorem Lv.len3 : Lv.ack.length ≤ 1000000000000 := by have := K.pk_len 0 2 [] (by decide); unfold Lv.ack K.sealed; rw [List.length_append, K.seal8_len]; omega
set_option maxRecDepth 100000 in
theorem lives_any (w : World) : Calls Try.prog 23 #[] w fun e w' => e = .returned (.bool true) ∧ Below w.heap.size w w' := by
 have hcv1 := run_conv_lit (.int .u8 97)
 have hcv2 := run_conv_lit (.int .u8 98)
 have hcv3 := run_conv_lit (.int .u8 99)
 go_enter Try.func23, Try.ntmps23
 go_wp2_with fail
 refine (new_yes 2 9 w (by omega) (by omega)).mono ?_
 rintro e w1 ⟨ba, oa, rfl, hE1, ke, ho1⟩
 have HE1 := Lib.hid hE1; have ka := Lib.hid ke; have HO1 := Lib.hid ho1
 clear hE1 ke ho1
 go_wp2_with fail
 refine (new_yes 2 9 w1 (by omega) (by omega)).mono ?_
 rintro e w2 ⟨bb, ob, rfl, hE2, kc, ho2⟩
 have HT2 := Lib.hid (two_new HE1.out ka.out HO1.out hE2 kc ho2)
 have kf := Lib.hid (Blw ka.out kc)
 clear hE2 kc ho2 HE1 ka HO1
 go_wp2_with fail
 generalize hW : w2.alloc (.cells _ 5 _) = u3
 have hbu : Below w2.heap.size w2 u3 := by rw [← hW]; exact (Below.refl _ _).alloc (Nat.le_refl _) _
 have hbv : BV u3 (.slice (some ⟨w2.heap.size, 0, none⟩) 1 1) [97] := by rw [← hW]; exact bv_lit w2 97 _
 have HBU3 := Lib.hid (Blw kf.out hbu)
 have hsend := two_send (HT2.out.below hbu) HBU3.out.size hbv (by decide) (by decide)
 have HS3 := Lib.hid hsend
 clear hW hbu hbv hsend
 refine HS3.out.mono ?_
 rintro e w3 ⟨rfl, hT, hK⟩
 have HT3 : Hid (Two w.heap.size [] w3 ba bb { K.E0 2 9 with wait := [[97]] } (K.E0 2 9)) := Lib.hid hT
 have kg := Lib.hid (HBU3.out.trans (hK.below HBU3.out.size))
 clear hT hK HS3 HBU3 HT2 kf
 go_wp2_with fail
 generalize hW : w3.alloc (.cells _ 5 _) = u4
 have hbu : Below w3.heap.size w3 u4 := by rw [← hW]; exact (Below.refl _ _).alloc (Nat.le_refl _) _
 have hbv : BV u4 (.slice (some ⟨w3.heap.size, 0, none⟩) 1 1) [98] := by rw [← hW]; exact bv_lit w3 98 _
 have HBU4 := Lib.hid (Blw kg.out hbu)
 have hsend := two_send (HT3.out.below hbu) HBU4.out.size hbv (by decide) (by decide)
 have HS4 := Lib.hid hsend
 clear hW hbu hbv hsend
 refine HS4.out.mono ?_
 rintro e w4 ⟨rfl, hT, hK⟩
 have HT4 : Hid (Two w.heap.size [] w4 ba bb { K.E0 2 9 with wait := [[97], [98]] } (K.E0 2 9)) := Lib.hid hT
 have kh := Lib.hid (HBU4.out.trans (hK.below HBU4.out.size))
 clear hT hK HS4 HBU4 HT3 kg
 go_wp2_with fail
 generalize hW : w4.alloc (.cells _ 5 _) = u5
 have hbu : Below w4.heap.size w4 u5 := by rw [← hW]; exact (Below.refl _ _).alloc (Nat.le_refl _) _
 have hbv : BV u5 (.slice (some ⟨w4.heap.size, 0, none⟩) 1 1) [99] := by rw [← hW]; exact bv_lit w4 99 _
 have HBU5 := Lib.hid (Blw kh.out hbu)
 have hsend := two_send (HT4.out.below hbu) HBU5.out.size hbv (by decide) (by decide)
 have HS5 := Lib.hid hsend
 clear hW hbu hbv hsend
 refine HS5.out.mono ?_
 rintro e w5 ⟨rfl, hT, hK⟩
 have HT5 : Hid (Two w.heap.size [] w5 ba bb { K.E0 2 9 with wait := [[97], [98], [99]] } (K.E0 2 9)) := Lib.hid hT
 have k0 := Lib.hid (HBU5.out.trans (hK.below HBU5.out.size))
 clear hT hK HS5 HBU5 HT4 kh
 have HT5' : Hid (Two w.heap.size [] w5 ba bb Lv.a3 (K.E0 2 9)) := HT5
 clear HT5
 go_wp2_with fail
 refine (two_out HT5'.out k0.out.size Lv.ok3).mono ?_
 rintro e w6 ⟨v6, rfl, hr, hT, hK⟩
 rw [Lv.out3] at hr
 obtain ⟨A6, c6, rfl, -⟩ := hr.form
 have HR6 := Lib.hid hr
 have HT6 : Hid (Two w.heap.size ((Value.slice A6 2 c6).ownBlock.toList ++ []) w6 ba bb Lv.a3 (K.E0 2 9)) := Lib.hid hT
 have k1 := Lib.hid (k0.out.trans (hK.below k0.out.size))
 clear hr hT hK HT5' k0
 simp only [List.length_cons, List.length_nil, Nat.reduceAdd]
 obtain ⟨g6, k6, us6, e6, kd, hv6, hl6, -, -, -, -⟩ := HR6.out.rep (by simp)
 injection e6 with eA el ek
 clear el
 subst eA; subst ek
 obtain ⟨ua, ub, rfl⟩ : ∃ ua ub, us6 = [ua, ub] := by
  match us6, hl6 with
  | [ua, ub], _ => exact ⟨ua, ub, rfl⟩
 have f60 := kd 0 _ rfl
 have f61 := kd 1 _ rfl
 have hba := hv6.2 0 _ _ rfl rfl
 have hbb := hv6.2 1 _ _ rfl rfl
 have HBA := Lib.hid hba; have HBB := Lib.hid hbb
 obtain ⟨Aa, ca, rfl, -⟩ := hba
 obtain ⟨Ab, cb, rfl, -⟩ := hbb
 clear kd hv6 hl6 HR6
 generalize hna : Lv.pk1.length = na at *
 generalize hnb : Lv.pk2.length = nb at *
 have HF60 := Lib.hid f60
 clear hna hnb
 go_wp2_with fail
 refine (two_in HT6.out.swap k1.out.size Lv.ok0 HBB.out Lv.len2).mono ?_
 rintro e w7 ⟨v7, rfl, hr, hT, hK⟩
 rw [Lv.in2] at hr hT ⊢
 obtain ⟨A7, c7, rfl, -⟩ := hr.form
 have HK7 := Lib.hid hK
 have HT7 := Lib.hid hT.swap
 have k2 := Lib.hid (k1.out.trans (hK.below k1.out.size))
 have f70 := hK.cell (by simp [Value.ownBlock]) HF60.out
 have HBA7 := Lib.hid (HBA.out.kb hK.kb)
 clear hr hT hK HT6 k1 f60 f61 HF60 HBA HBB
 simp only [List.length_nil]
 go_wp2_with fail
 refine (two_in HT7.out.swap k2.out.size Lv.ok1 HBA7.out Lv.len1).mono ?_
 rintro e w8 ⟨v8, rfl, hr, hT, hK⟩
 rw [Lv.in1b] at hr hT ⊢
 obtain ⟨g8, k8, us8, e8, ki, hv8, hl8, -, -, -, -⟩ := hr.rep (by simp)
 subst e8
 obtain ⟨uc, ud, rfl⟩ : ∃ uc ud, us8 = [uc, ud] := by
  match us8, hl8 with
  | [uc, ud], _ => exact ⟨uc, ud, rfl⟩
 have HF81 := Lib.hid (ki 1 _ rfl)
 have hbd := hv8.2 1 _ _ rfl rfl
 have HBD := Lib.hid hbd
 obtain ⟨Ad, cd, rfl, -⟩ := hbd
 have HT8 := Lib.hid hT
 have k3 := Lib.hid (k2.out.trans (hK.below k2.out.size))
 clear hr hT hK HT7 k2 f70 HBA7 HK7 ki hv8 hl8
 simp only [List.length_cons, List.length_nil, Nat.reduceAdd]
 go_wp2_with fail
 refine (two_out HT8.out k3.out.size Lv.ok2).mono ?_
 rintro e w9 ⟨v9, rfl, hr, hT, hK⟩
 rw [Lv.out2] at hr
 obtain ⟨g9, k9, us9, e9, kj, hv9, hl9, -, -, -, -⟩ := hr.rep (by simp)
 subst e9
 obtain ⟨ue, rfl⟩ : ∃ ue, us9 = [ue] := by
  match us9, hl9 with
  | [ue], _ => exact ⟨ue, rfl⟩
 have f90 := kj 0 _ rfl
 have hbe := hv9.2 0 _ _ rfl rfl
 have HBE := Lib.hid hbe
 obtain ⟨Ae, ce, rfl, -⟩ := hbe
 have HT9 := Lib.hid hT.swap
 have k4 := Lib.hid (k3.out.trans (hK.below k3.out.size))
 have f81 := hK.cell (by simp [Value.ownBlock]) HF81.out
 have hbd9 := HBD.out.kb hK.kb
 obtain ⟨A_, c_, e_, -, -, hrd, -⟩ := hbd9
 injection e_ with eA1 el1 ec1
 clear el1
 subst eA1; subst ec1
 have hcvd := run_string_rd hrd 1 cd rfl
 clear hr hT hK HT8 k3 HF81 HBD kj hv9 hl9 hrd
 generalize hne : Lv.ack.length = ne at *
 clear hne
 simp only [List.length_cons, List.length_nil, Nat.reduceAdd]
 go_wp2_with fail
 refine (two_in HT9.out k4.out.size Lv.ok3 HBE.out Lv.len3).mono ?_
 rintro e w10 ⟨v10, rfl, hr, hT, hK⟩
 rw [Lv.in3] at hr hT ⊢
 obtain ⟨A10, c10, rfl, -⟩ := hr.form
 have HT10 := Lib.hid hT
 have k5 := Lib.hid (k4.out.trans (hK.below k4.out.size))
 clear hr hT hK HT9 k4 f90 f81 hcvd HBE
 simp only [List.length_nil]
 go_wp2_with fail
 refine (two_out HT10.out k5.out.size Lv.ok4).mono ?_
 rintro e w11 ⟨v11, rfl, hr, hT, hK⟩
 rw [Lv.out4] at hr
 obtain ⟨g11, k11, us11, e11, kk, hv11, hl11, -, -, -, -⟩ := hr.rep (by simp)
 subst e11
 obtain ⟨uf, rfl⟩ : ∃ uf, us11 = [uf] := by
  match us11, hl11 with
  | [uf], _ => exact ⟨uf, rfl⟩
 have HF110 := Lib.hid (kk 0 _ rfl)
 have hbf := hv11.2 0 _ _ rfl rfl
 have HBF := Lib.hid hbf
 obtain ⟨Af, cf, rfl, -⟩ := hbf
 have HT11 := Lib.hid (hT.sub (ks' := []) (by simp))
 have kn := Lib.hid (k5.out.trans (hK.below k5.out.size))
 have hgl := ((hr.lt g11 rfl)).2
 clear hr hT hK HT10 k5 kk hv11 hl11
 generalize hnf : Lv.pk3.length = nf at *
 have HNF := Lib.hid hnf
 clear hnf
 simp only [List.length_cons, List.length_nil, Nat.reduceAdd]
 go_wp2_with fail
 generalize hW : w11.alloc (.cells _ 5 _) = u12
 have hbu : Below w11.heap.size w11 u12 := by rw [← hW]; exact (Below.refl _ _).alloc (Nat.le_refl _) _
 have hbv : BV u12 (.slice (some ⟨w11.heap.size, 0, none⟩) 1 1) [99] := by rw [← hW]; exact bv_lit w11 99 _
 have HBU := Lib.hid hbu
 obtain ⟨A12, c12, e12, -, -, hr12, -⟩ := hbv
 injection e12 with eA el ec
 clear el
 subst eA; subst ec
 have hpk := rpk_any 3 0 _ 1 _ [99] u12 hr12 (Nat.le_refl _) (i64 (by omega) (by omega)) (i64 (by omega) (by omega)) (by decide)
 have HPK := Lib.hid hpk
 clear hW hbu hr12 hpk
 refine HPK.out.mono ?_
 rintro e w13 ⟨v13, rfl, hown, hb⟩
 have kl := Lib.hid (Blw HBU.out hb)
 have hlp := K.pk_len 3 0 [99] (by decide)
 obtain ⟨A13, c13, rfl, km, hm13, -⟩ := own_form hown
 have hrs := rseal_rd 9 A13 c13 _ (K.pk 3 0 [99]) w13 (by decide) (Rd.of_own hown) (Nat.le_refl _) km hm13 (by omega)
 have HRS := Lib.hid hrs
 clear hown hb hrs km hm13 HPK HBU
 generalize hnp : (K.pk 3 0 [99]).length = np at *
 clear hnp hlp
 go_wp2_with fail
 refine HRS.out.mono ?_
 rintro e w14 ⟨v14, rfl, hown, hb⟩
 have k7 := Lib.hid (Blw kl.out hb)
 have HBV14 : Hid (BV w14 v14 Lv.pk3) := Lib.hid (BV.own hown)
 have f140 := (k7.out.cell (p := ⟨g11, 0, none⟩) hgl).trans HF110.out
 have hbf14 := HBF.out.below k7.out
 have hsm := same_bv hbf14 HBV14.out
 rw [decide_eq_true rfl] at hsm
 have HSM := Lib.hid hsm
 have HT14 := Lib.hid (HT11.out.below k7.out)
 have HB14w := Lib.hid (Blw kn.out k7.out)
 have hwt : ∀ n, Calls Try.prog 21 #[.pointer (some ⟨ba, 0, none⟩)] (w14.drewN n) fun e w' => e = .returned (.int .i64 1) ∧ w14.drewN n = w' := fun n => two_wait (w := w14.drewN n) HT14.out
 have hft : ∀ n, Calls Try.prog 22 #[.pointer (some ⟨ba, 0, none⟩)] (w14.drewN n) fun e w' => e = .returned (.int .i64 0) ∧ w14.drewN n = w' := fun n => two_forg (w := w14.drewN n) HT14.out
 have HWT := Lib.hid hwt; have HFT := Lib.hid hft
 obtain ⟨A14, c14, rfl, -⟩ := own_form hown
 clear hown hb hbf14 hsm hwt hft HRS kl
 rw [show (K.pk 3 0 [99] ++ K.seal8 (K.hash 9 (K.pk 3 0 [99]))).length = nf from HNF.out]
 go_wp2_with fail
 have hsm2 := HSM.out
 rw [show (K.pk 3 0 [99] ++ K.seal8 (K.hash 9 (K.pk 3 0 [99]))).length = nf from HNF.out] at hsm2
 refine hsm2.mono ?_
 clear hsm2
 rintro e w15 ⟨rfl, n, rfl⟩
 go_wp2_with fail
 refine (HWT.out n).mono ?_
 rintro e w16 ⟨rfl, rfl⟩
 go_wp2_with fail
 refine (HFT.out n).mono ?_
 rintro e w17 ⟨rfl, rfl⟩
 go_wp2
 go_ret
 exact ⟨rfl, bdN HB14w.out n⟩
end Go.Proofs.Ytgdibcgphjmofaa
