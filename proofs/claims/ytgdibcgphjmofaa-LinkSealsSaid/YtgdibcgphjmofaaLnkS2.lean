/-
 THE WALK of LinkSeals.
-/
import Derived.Test.YtgdibcgphjmofaaLnkZ
import Derived.Test.YtgdibcgphjmofaaLnkD1
import Derived.Test.YtgdibcgphjmofaaFlowU
namespace Go.Proofs.Ytgdibcgphjmofaa
set_option maxHeartbeats 1000000
open Go.RowKit
set_option linter.unusedVariables false
theorem BV.take {w : World} {A : Option Addr} {n c : Nat} {l : List UInt8} (h : BV w (.slice A n c) l) (k : Nat) (hk : k ≤ l.length) : BV w (.slice A k c) (l.take k) := by
 obtain ⟨A', c', e, h3, h4, h5, h6⟩ := h
 injection e with e1 e2 e3
 subst e1; subst e3
 refine ⟨A, c, by rw [List.length_take, Nat.min_eq_left hk], by rw [List.length_take]; omega, h4, ?_, fun hn => h6 (by rw [List.length_take] at hn; omega)⟩
 rw [show W.bc (l.take k) = (W.bc l).take k from by simp [W.bc, List.map_take]]
 exact h5.take k
/-- What the reference's Open returns. -/
def ROq (r : List UInt8 × Int) (w : World) (e : Ending) (w' : World) : Prop := ∃ v, e = .returned (.tuple #[v, .int .i64 r.2]) ∧ BV w' v r.1 ∧ Below w.heap.size w w'
theorem ropen_short (key : Int) (A : Option Addr) (n c : Nat) (w : World) (hn : n < 8) : Calls Try.prog 30 #[.int .u64 key, .slice A n c] w (ROq ([], 2) w) := by
 have hd : (n : Int) - 8 < 0 := by omega
 go_enter Try.func30, Try.ntmps30
 go_wp2
 go_ret2
 exact ⟨_, rfl, BV.nil _, Below.refl _ _⟩
theorem ropen_long (key : Int) (b o c M : Nat) (l : List UInt8) (w : World) (g : Bool) (r : List UInt8) (hk : 0 ≤ key ∧ key < 18446744073709551616) (hr : r = l.take M) (hbv : BV w (.slice (some ⟨b, o, none⟩) (M + 8) c) l) (hrv : BV w (.slice (some ⟨b, o, none⟩) M c) r) (hM : M ≤ 1000000000000) (hc : M + 8 ≤ c) (hcm : c ≤ maxLen)
  (hg : decide (r ++ K.seal8 (K.hash key r) = l) = g) (q : List UInt8 × Int) (hq : (if g = true then (r, 0) else ([], 9)) = q) :
  Calls Try.prog 30 #[.int .u64 key, .slice (some ⟨b, o, none⟩) (M + 8) c] w (ROq q w) := by
 have HQ := Lib.hid hq; clear hq
 have HS : Hid (Calls Try.prog 17 #[.int .u64 key, .slice (some ⟨b, o, none⟩) M c] w (RB_ (r ++ K.seal8 (K.hash key r)) w)) := by
  obtain ⟨A, c', e, h3, h4, h5, h6⟩ := hrv
  injection e with e1 e2 e3
  subst e1; subst e3
  have h := rseal_rd key (some ⟨b, o, none⟩) c _ r w hk h5 (Nat.le_refl _) h3 h4 (by omega)
  rw [← e2] at h
  exact Lib.hid h
 have HBV := Lib.hid hbv; have HRV := Lib.hid hrv; have HG := Lib.hid hg
 unfold maxLen at hcm
 have hMc : M ≤ c := by omega
 have hM8 : (M : Int) ≤ (M : Int) + 8 := by omega
 have hcM : ¬ c = M := by omega
 have hn : ((M + 8 : Nat) : Int) - 8 = (M : Int) := by omega
 clear hbv hrv hg hr hk
 go_enter Try.func30, Try.ntmps30
 go_wp2_with fail
 refine HS.out.mono ?_
 rintro e w1 ⟨v1, rfl, hown, hb⟩
 have hsm := same_bv (BV.own (l := r ++ K.seal8 (K.hash key r)) hown) (HBV.out.below hb)
 rw [HG.out] at hsm
 have HSM := Lib.hid hsm; have HB := Lib.hid hb
 clear hsm hown hb HS
 go_wp2_with fail
 refine HSM.out.mono ?_
 rintro e w2 ⟨rfl, n, rfl⟩
 cases g
 ·go_wp2
  go_ret2
  obtain rfl : ([], 9) = q := HQ.out
  exact ⟨_, rfl, BV.nil _, bdN HB.out n⟩
 ·go_wp2
  go_ret2
  obtain rfl : (r, 0) = q := HQ.out
  exact ⟨_, rfl, HRV.out.below (bdN HB.out n), bdN HB.out n⟩
theorem ropen_any (key : Int) (x : Value) (l : List UInt8) (w : World) (hk : 0 ≤ key ∧ key < 18446744073709551616) (hbv : BV w x l) (hl : l.length ≤ 1000000000000) :
  Calls Try.prog 30 #[.int .u64 key, x] w (ROq (K.unseal key l) w) := by
 have h0 := hbv
 obtain ⟨A, c, rfl, hc, hm, hr, hty⟩ := hbv
 by_cases h8 : l.length < 8
 ·unfold K.unseal
  rw [if_pos h8]
  exact ropen_short key A l.length c w h8
 ·obtain ⟨b, o, rfl, hb, hcell⟩ := hr (by simp; omega)
  obtain ⟨M, hM⟩ : ∃ M, M = l.length - 8 := ⟨_, rfl⟩
  have hlen : l.length = M + 8 := by omega
  have e : K.unseal key l = if decide (l.take M ++ K.seal8 (K.hash key (l.take M)) = l) = true then (l.take M, 0) else ([], 9) := by
   unfold K.unseal
   rw [if_neg h8, ← hM]
   by_cases hs : K.seal8 (K.hash key (l.take M)) = l.drop M
   ·rw [if_neg (by simpa using hs), if_pos (by rw [hs, List.take_append_drop]; exact decide_eq_true rfl)]
   ·rw [if_pos hs, if_neg]
    intro h
    have h := of_decide_eq_true h
    have h2 := congrArg (List.drop M) h
    rw [List.drop_left' (by rw [List.length_take]; omega)] at h2
    exact hs h2
  rw [e]
  rw [hlen] at h0 hc ⊢
  exact ropen_long key b o c M l w _ _ hk rfl h0 (h0.take M (by omega)) (by omega) hc hm rfl _ rfl
section
variable {w : World} {A : Option Addr} {n c : Nat} {l : List UInt8}
theorem BV.parts (h : BV w (.slice A n c) l) : n = l.length ∧ n ≤ c ∧ c ≤ maxLen ∧ Rd w w.heap.size A (W.bc l) := by
 obtain ⟨A', c', e, h3, h4, h5, h6⟩ := h
 injection e with e1 e2 e3
 subst e1; subst e3
 exact ⟨e2, by omega, h4, h5⟩
theorem few_bv (h : BV w (.slice A n c) l) (k : Nat) (hk : k ≤ 1000000000000) : Calls Try.prog 16 #[.slice A n c, .int .i64 (k : Int)] w (RB_ (l.take k) w) := by
 obtain ⟨rfl, h2, h3, h4⟩ := h.parts
 exact few_any A c _ k l w h4 h2 h3 hk
theorem lseal_bv (key : Int) (h : BV w (.slice A n c) l) (hl : l.length ≤ 900000000000) : Calls Try.prog 24 #[.int .u64 key, .slice A n c] w (RB_ (K.sealed key l) w) := by
 obtain ⟨rfl, h2, h3, h4⟩ := h.parts
 exact lseal_any key A c _ l w h4 (Nat.le_refl _) h2 h3 hl
theorem rseal_bv (key : Int) (hk : 0 ≤ key ∧ key < 18446744073709551616) (h : BV w (.slice A n c) l) (hl : l.length ≤ 1000000000000) : Calls Try.prog 17 #[.int .u64 key, .slice A n c] w (RB_ (K.sealed key l) w) := by
 obtain ⟨rfl, h2, h3, h4⟩ := h.parts
 exact rseal_rd key A c _ l w hk h4 (Nat.le_refl _) h2 h3 hl
theorem open_bv (key : Int) (h : BV w (.slice A n c) l) (hl : l.length ≤ 140737488355328) : Calls Try.prog 25 #[.int .u64 key, .slice A n c] w (ROp (K.unseal key l) w) := by
 obtain ⟨rfl, h2, h3, h4⟩ := h.parts
 exact open_any key A c _ l w h4 (Nat.le_refl _) h2 h3 hl
end
end Go.Proofs.Ytgdibcgphjmofaa
namespace Go.Proofs.Ytgdibcgphjmofaa
set_option maxHeartbeats 2000000
open Go.RowKit
open Go.Maps
set_option linter.unusedVariables false
/-- Bytes of the region's own. -/
def SOwn (B : Nat) (l : List UInt8) : Sp := fun w v => w.ownsRow B 5 1 v l.length (W.bc l)
theorem SOwn.mono (B : Nat) (l : List UInt8) : Mono (SOwn B l) := fun _ _ _ h hb => own_below h hb
theorem Does.ro {o : Oper} {a : Act} {wx : World} {f : FuncId} {args : Array Value} {l : List UInt8} {B : Nat} (hr : (execOp a.eval o).run Try.prog wx = .ok (.enter f args) wx) (hc : Calls Try.prog f args wx (RB_ l wx)) (hB : B ≤ wx.heap.size) : Does Try.prog o (SOwn B l) false a wx :=
 .inr ⟨rfl, f, args, hr, hc.mono fun _ _ ⟨v, h1, h2, h3⟩ => ⟨v, h1, h3, own_base h2 hB⟩⟩
theorem op_row1 {o : Oper} {a : Act} {wx : World} {T S : Nat} {x : Operand} {u : Value} (ho : o.op = .buildSlice S 1 #[(0, x)]) (hx : a.eval x = u)
  (hr : (Instr.buildSlice S 1 #[(0, u)]).run Try.prog wx = .ok (.slice (some ⟨wx.heap.size, 0, none⟩) 1 1) (wx.alloc (.cells #[u] T))) : Does Try.prog o (SRow T [u]) false a wx := by
 have h : ∀ ρ : Operand → Value, ρ x = u → (execOp ρ o).run Try.prog wx = .ok (.value (.slice (some ⟨wx.heap.size, 0, none⟩) 1 1)) (wx.alloc (.cells #[u] T)) := by
  intro ρ e1; simp [execOp, ho, e1, hr, Result.andThen]
 exact .inl ⟨_, _, h _ hx, (Below.refl _ _).alloc (Nat.le_refl _) _, ⟨_, rfl, Bx.at_ rfl⟩, fun h => by cases h⟩
/-- append of bytes onto bytes of the region's own. -/
theorem op_bapp {o : Oper} {a : Act} {wx : World} {x y : Operand} {B : Nat} {l m : List UInt8} (ho : o.op = .call { callee := .builtin .append, args := #[x, y], argTypes := #[33, 33] }) (hx : SOwn B l wx (a.eval x)) (hy : BV wx (a.eval y) m) (hB : B ≤ wx.heap.size) (hl : l.length + m.length ≤ 1000000000000) :
  DoesT (TB B) Try.prog o (SOwn B (l ++ m)) false a wx := by
 obtain ⟨i0, hi, hz0, hz1, hz2⟩ := info_parts info_u8
 obtain ⟨A, c, ey, h1, h2, h3, -⟩ := hy
 obtain ⟨rv, ex⟩ : ∃ rv, rv = a.eval x := ⟨_, rfl⟩
 have hx' : wx.ownsRow B 5 1 rv l.length (W.bc l) := by rw [ex]; exact hx
 obtain ⟨v', w', r1, r2, r3⟩ := run_append_rd (P := Try.prog) B 33 o.type 5 i0 _ 1 Try.underlying33 hi hz0 hz1 hz2 rfl rv l.length (W.bc l) hx' A m.length c wx.heap.size (W.bc m) h3 (by simp) (W.bc_oneCell m) (by unfold maxLen; omega) (by omega) hB
 have h : ∀ ρ : Operand → Value, ρ x = rv → ρ y = .slice A m.length c → (execOp ρ o).run Try.prog wx = .ok (.value v') w' := by
  intro ρ e1 e2
  unfold execOp
  simp only [ho, resolve, invoke, builtin, Sem.run_bind, Sem.run_pure, Result.andThen_ok, List.map_toArray, List.map_cons, List.map_nil, e1, e2, r1]
 have hb : Below B wx w' := ((Below.refl wx.heap.size wx).mono hB).grown r3 hB (fun k hk => (hx'.lt k hk).1)
 refine .inl ⟨v', w', h _ ex.symm ey, TB.of hb, ?_, fun h => by cases h⟩
 show w'.ownsRow B 5 1 v' (l ++ m).length (W.bc (l ++ m))
 rw [W.bc_append, List.length_append]
 exact r2
theorem bv_row1 {w : World} {v : Value} {g : Nat} {c : UInt8} (e : v = .slice (some ⟨g, 0, none⟩) 1 1) (h : Bx w g 5 [.int .u8 (c.toNat : Int)]) : BV w v [c] :=
 ⟨_, _, e, Nat.le_refl _, by decide, fun _ => ⟨g, 0, rfl, h.lt, fun j u hu => by rw [Nat.zero_add]; exact h.cell hu⟩, fun _ => ⟨g, 0, _, _, rfl, h⟩⟩
theorem Sl.ok1 (key : Int) (hk : 0 ≤ key ∧ key < 18446744073709551616) : K.ok (K.E0 1 key) := ⟨by simp [K.E0], by simp [K.E0], by simp [K.E0], by simp [K.E0], by simp [K.E0], by simp [K.E0], by simp [K.E0], by simp [K.E0], by simp [K.E0], by simp [K.E0], by simp [K.E0], hk⟩
theorem Sl.inn (key : Int) {L : List UInt8} (hL : L.length ≤ 65536) : ∃ S, K.inn (K.E0 1 key) (K.sealed key (K.pk 1 0 L)) = ([L], 0, S) := by
 have h := K.inn_sealed (S := K.E0 1 key) (p := 1) (q := 0) (s := L) (i64 (by omega) (by omega)) (i64 (by omega) (by omega)) ⟨by omega, by omega, hL, by omega⟩
 exact ⟨_, (show K.inn (K.E0 1 key) (K.sealed key (K.pk 1 0 L)) = _ from h).trans rfl⟩
theorem Sl.keys (key other : Int) (hk : 0 ≤ key ∧ key < 18446744073709551616) (hk' : 0 ≤ other ∧ other < 18446744073709551616) {k : Nat} (h : k < 2) : ∃ kk : Int, [Value.int .u64 key, .int .u64 other][k]? = some (.int .u64 kk) ∧ 0 ≤ kk ∧ kk < 18446744073709551616 := by
 match k, h with
 | 0, _ => exact ⟨key, rfl, hk⟩
 | 1, _ => exact ⟨other, rfl, hk'⟩
/-- A pair of bytes and an error. -/
def SOpn (r : List UInt8 × Int) : Sp := fun w v => ∃ u, v = .tuple #[u, .int .i64 r.2] ∧ BV w u r.1
theorem SOpn.mono (r : List UInt8 × Int) : Mono (SOpn r) := fun _ _ _ ⟨u, h1, h2⟩ hb => ⟨u, h1, h2.below hb⟩
theorem op_ex0 {o : Oper} {a : Act} {wx : World} {x : Operand} {r : List UInt8 × Int} (ho : o.op = .extract x 0) (h : SOpn r wx (a.eval x)) : Does Try.prog o (SY r.1) false a wx := by
 obtain ⟨u, e, hu⟩ := h
 have : ∀ ρ : Operand → Value, ρ x = .tuple #[u, .int .i64 r.2] → (execOp ρ o).run Try.prog wx = .ok (.value u) wx := by
  intro ρ e; simp [execOp, ho, e, go_sem]
 exact Does.val (this _ e) hu
theorem op_ex1 {o : Oper} {a : Act} {wx : World} {x : Operand} {r : List UInt8 × Int} (ho : o.op = .extract x 1) (h : SOpn r wx (a.eval x)) : Does Try.prog o (SC (.int .i64 r.2)) false a wx := by
 obtain ⟨u, e, hu⟩ := h
 have : ∀ ρ : Operand → Value, ρ x = .tuple #[u, .int .i64 r.2] → (execOp ρ o).run Try.prog wx = .ok (.value (.int .i64 r.2)) wx := by
  intro ρ e; simp [execOp, ho, e, go_sem]
 exact Does.val (this _ e) rfl
theorem Does.ru {o : Oper} {a : Act} {wx : World} {f : FuncId} {args : Array Value} {s : Sp} (hr : (execOp a.eval o).run Try.prog wx = .ok (.enter f args) wx) (hc : Calls Try.prog f args wx fun e w' => ∃ v, e = .returned v ∧ Below wx.heap.size wx w' ∧ s w' v) : Does Try.prog o s false a wx :=
 .inr ⟨rfl, f, args, hr, hc⟩
set_option maxRecDepth 100000 in
theorem law_seals (key other : Int) (A : Option Addr) (len cap : Nat) (l : List UInt8) (at_ c_ : Int) (w : World) (hk : 0 ≤ key ∧ key < 18446744073709551616) (hk' : 0 ≤ other ∧ other < 18446744073709551616) (hb : IsB w A len cap l) (hat : W.Is64 at_) (hc_ : 0 ≤ c_ ∧ c_ < 256) :
  Calls Try.prog 4 #[.int .u64 key, .int .u64 other, .slice A len cap, .int .i64 at_, .int .u8 c_] w fun e w' => e = .returned (.bool true) ∧ Below w.heap.size w w' := by
 obtain ⟨i0, hi, hz0, hz1, hz2⟩ := info_parts info_u8
 obtain ⟨hr, rfl, hc, hm⟩ := hb
 have HK := Lib.hid hk; have HK' := Lib.hid hk'
 have hf := few_any A cap _ 60 l w hr hc hm (by omega)
 obtain ⟨L1, hL1⟩ : ∃ L1, L1 = l.take 60 := ⟨_, rfl⟩
 have hl1 : L1.length ≤ 60 := by rw [hL1, List.length_take]; omega
 rw [← hL1] at hf
 obtain ⟨cb, hcb⟩ : ∃ cb : UInt8, c_ = (cb.toNat : Int) := ⟨UInt8.ofNat c_.toNat, by rw [UInt8.toNat_ofNat']; omega⟩
 subst hcb
 clear hL1 hr hk hk' hc_
 go_enter Try.func4, Try.ntmps4
 go_wp2_with fail
 refine hf.mono ?_
 clear hf hc hm
 rintro e w1 ⟨v1, rfl, hown1, ke⟩
 have hv1 : BV w1 v1 L1 := BV.own hown1
 obtain ⟨A1, c1, rfl, -⟩ := own_form hown1
 generalize hn1 : L1.length = n1 at *
 have HS := Lib.hid (lseal_bv key hv1 (by omega))
 have HV1 := Lib.hid hv1; have kf := Lib.hid ke
 clear hown1 ke hv1
 go_wp2_with fail
 refine HS.out.mono ?_
 rintro e w2 ⟨v2, rfl, hown2, ka⟩
 obtain ⟨X, hX⟩ : ∃ X, X = K.sealed key L1 := ⟨_, rfl⟩
 have hlen : X.length = n1 + 8 := by rw [hX]; unfold K.sealed; rw [List.length_append, K.seal8_len, hn1]
 rw [← hX] at hown2
 have hv2 : BV w2 v2 X := BV.own hown2
 obtain ⟨g2, c2, rfl, kr, hm2, hg2, hgs2⟩ := own_pos hown2 (by omega)
 obtain ⟨n2, hn2⟩ : ∃ n2, n2 = X.length := ⟨_, rfl⟩
 rw [← hn2] at hv2 kr ⊢
 have HN := Lib.hid hn2; have HN8 : Hid (n2 = n1 + 8) := Lib.hid (by omega)
 have HX := Lib.hid hX
 have kg := Lib.hid (Blw kf.out ka)
 have HV12 := Lib.hid (HV1.out.below ka)
 have hop := open_bv key hv2 (by rw [← hn2, HN8.out]; omega)
 have hus : K.unseal key X = (L1, 0) := by rw [hX]; exact K.unseal_sealed key L1
 rw [hus] at hop
 have HOP := Lib.hid hop; have HV2 := Lib.hid hv2
 have hn2b : n2 ≤ 68 := by have := HN8.out; omega
 have hn2a : 8 ≤ n2 := by have := HN8.out; omega
 clear hown2 ka hop hus hX hlen hv2 HS kf HV1 hn2
 go_wp2_with fail
 refine HOP.out.mono ?_
 rintro e w3 ⟨v3, rfl, hown3, k7⟩
 have hv3 : BV w3 v3 L1 := BV.own hown3
 obtain ⟨A3, c3, rfl, -⟩ := own_form hown3
 rw [show (L1, (0:Int)).1 = L1 from rfl] at *
 rw [hn1] at hv3 ⊢
 have HV3 := Lib.hid hv3
 have HV13 := Lib.hid (HV12.out.below k7)
 have HV23 := Lib.hid (HV2.out.below k7)
 have kh := Lib.hid (Blw kg.out k7)
 have HR13 := Lib.hid HV13.out.parts.2.2.2
 have HN1 := Lib.hid hn1
 have HSU : Hid ((W.encI [1, 0]).length + (W.encB L1).length ≤ 1000000000000) := Lib.hid (by have := K.pk_sum 1 0 L1; omega)
 have HPL : Hid ((K.pk 1 0 L1).length ≤ 96) := Lib.hid (by have := K.pk_sum 1 0 L1; unfold K.pk; rw [List.length_append]; omega)
 clear hown3 k7 hv3 HOP kg HV2 HV12 hn1
 go_upto_region 4 with fail
 generalize hW_4 : w3.drew = W_4
 refine gen_act ?_
 intro F_ hF_
 have ev0 : F_.eval (.tmp 0) = .int .u64 key := by rw [← hF_]; rfl
 have ev11 : F_.eval (.tmp 11) = .slice A1 n1 c1 := by rw [← hF_]; rfl
 have hsz_ : ∀ d ∈ ([(40, []), (41, []), (42, [1]), (43, []), (44, [3]), (45, [4]), (46, [2, 5])] : List (Nat × List Nat)).map (·.1), d < F_.tmps.size := by rw [← hF_]; simp
 have HF_ := Lib.hid hF_; clear hF_
 have hmU_ : ∀ k, k ≠ 6 → k ∉ [1, 2, 5] → MonoT (TB w3.heap.size) (nthS [SC (.int .u64 key), SRow 3 [.int .i64 1, .int .i64 0], SOwn w3.heap.size (W.encI [1, 0]), SC (.slice A1 n1 c1), SC (.string ⟨L1.toArray⟩), SY (W.encB L1), SOwn w3.heap.size (K.pk 1 0 L1)] k) := by
  intro k h1 h2
  match k, h1, h2 with
  | 0, _, _ => exact SC.monoT _ _
  | 1, _, h2 => exact absurd (by decide) h2
  | 2, _, h2 => exact absurd (by decide) h2
  | 3, _, _ => exact SC.monoT _ _
  | 4, _, _ => exact SC.monoT _ _
  | 5, _, h2 => exact absurd (by decide) h2
  | 6, h1, _ => exact absurd rfl h1
  | k + 7, _, _ => exact fun _ _ _ _ _ => trivial
 refine wp_flow_tabGU (T := TB w3.heap.size) (TB.rel _) true hW_4 7 [(40, []), (41, []), (42, [1]), (43, []), (44, [3]), (45, [4]), (46, [2, 5])] [SC (.int .u64 key), SRow 3 [.int .i64 1, .int .i64 0], SOwn w3.heap.size (W.encI [1, 0]), SC (.slice A1 n1 c1), SC (.string ⟨L1.toArray⟩), SY (W.encB L1), SOwn w3.heap.size (K.pk 1 0 L1)] [false, false, false, false, false, false, false] (by kernel_rfl) (by kernel_rfl) (by kernel_rfl) (by kernel_rfl) (by kernel_rfl) hsz_ 6 [1, 2, 5] (by kernel_rfl) ⟨SC.mono _, SRow.mono _ _, SOwn.mono _ _, SC.mono _, SC.mono _, SY.mono _, SOwn.mono _ _, trivial⟩ hmU_ ?_ ?_
 ·intro kq hkq a wx hB hBb hp hs
  have hBo : Below w3.heap.size w3 wx := dU hW_4 hB
  have hcase : kq = 0 ∨ kq = 1 ∨ kq = 2 ∨ kq = 3 ∨ kq = 4 ∨ kq = 5 ∨ kq = 6 := by omega
  rcases hcase with rfl | rfl | rfl | rfl | rfl | rfl | rfl
  ·clear hp
   exact ⟨_, rfl, .inr ⟨by decide, .inl ⟨wanted_none rfl, op_mv (s := SC _) rfl ((hs 0 rfl).trans ev0)⟩⟩⟩
  ·clear hp
   exact ⟨_, rfl, .inr ⟨by decide, .inl ⟨wanted_none rfl, op_row2 (T := 3) (by rfl) rfl rfl rfl rfl (by simp [go_sem])⟩⟩⟩
  ·obtain ⟨k0, -⟩ := hp
   obtain ⟨gr, er, hr⟩ := k0
   exact ⟨_, rfl, .inr ⟨by decide, .inl ⟨wanted_none rfl, Does.ro (f := 26) (call1 rfl (fun _ => by simp [go_sem]) er) ((ints2 1 0 gr wx hr (i64 (by omega) (by omega)) (i64 (by omega) (by omega))).mono fun _ _ h => RB_.of h) hBo.size⟩⟩⟩
  ·clear hp
   exact ⟨_, rfl, .inr ⟨by decide, .inl ⟨wanted_none rfl, op_mv (s := SC _) rfl ((hs 11 rfl).trans ev11)⟩⟩⟩
  ·obtain ⟨k0, -⟩ := hp
   have e0 : a.eval (.tmp 43) = .slice A1 n1 c1 := k0
   simp [Act.eval] at e0
   exact ⟨_, rfl, .inr ⟨by decide, .inl ⟨wanted_none rfl, Does.val (by simp [execOp, Act.eval, e0, go_sem, run_string_rd (HR13.out.below hBo (Nat.le_refl _)) n1 c1 HN1.out.symm]) rfl⟩⟩⟩
  ·obtain ⟨k0, -⟩ := hp
   exact ⟨_, rfl, .inr ⟨by decide, .inl ⟨wanted_none rfl, Does.ry (f := 27) (call1 rfl (fun _ => by simp [go_sem]) k0) ((wbytes_any ⟨L1.toArray⟩ wx (by have := HN1.out; simp [ByteArray.size]; omega)).mono fun _ _ h => (RB_.of h).bv)⟩⟩⟩
  ·obtain ⟨k0, k1, -⟩ := hp
   have hBk : Below w3.heap.size w3 wx := dB hW_4 (hBb rfl)
   exact ⟨_, rfl, .inl ⟨rfl, .inl ⟨wanted_none rfl, op_bapp rfl k0 k1 hBk.size HSU.out⟩⟩⟩
 ·intro val wx hB hsp hdis
  have hBo : Below w3.heap.size w3 wx := dU hW_4 hB
  have e0 : val 0 = .int .u64 key := hsp 0 (by omega) (by decide)
  have h6 : (SOwn w3.heap.size (K.pk 1 0 L1)) wx (val 6) := hsp 6 (by omega) (by decide)
  generalize e6 : val 6 = u6 at h6
  rw [← HF_.out]
  change wpList _ _ _ [_, _] _ _
  simp only [puts_consT, puts_nilm, vals, List.map_cons, List.map_nil, Nat.zero_add, Nat.reduceAdd, e0, e6, List.setIfInBounds_toArray, List.set_cons_succ, List.set_cons_zero]
  clear hsp hdis HF_ hsz_ hB hW_4 e0 e6 ev0 ev11
  have hown4 : wx.ownsRow w3.heap.size 5 1 u6 (K.pk 1 0 L1).length (W.bc (K.pk 1 0 L1)) := h6
  clear h6
  obtain ⟨v4, rfl⟩ : ∃ v4 : Value, v4 = u6 := ⟨_, rfl⟩
  obtain ⟨w4, rfl⟩ : ∃ w4 : World, w4 = wx := ⟨_, rfl⟩
  have k5 := hBo
  clear hBo
  have hv4 : BV w4 v4 (K.pk 1 0 L1) := BV.own hown4
  obtain ⟨A4, c4, rfl, -⟩ := own_form hown4
  have HS4 := Lib.hid (lseal_bv key hv4 (by have := HPL.out; omega))
  have ki := Lib.hid (Blw kh.out k5)
  have HV14 := Lib.hid (HV13.out.below k5); have HV24 := Lib.hid (HV23.out.below k5); have HV34 := Lib.hid (HV3.out.below k5)
  generalize hnp : (K.pk 1 0 L1).length = np at *
  clear hown4 k5 hv4 kh HV13 HV23 HV3 HR13 HSU
  go_wp2_with fail
  refine HS4.out.mono ?_
  rintro e w5 ⟨v5, rfl, hown5, k6⟩
  have hlen5 : (K.sealed key (K.pk 1 0 L1)).length = np + 8 := by unfold K.sealed; rw [List.length_append, K.seal8_len, hnp]
  have hv5 : BV w5 v5 (K.sealed key (K.pk 1 0 L1)) := BV.own hown5
  obtain ⟨A5, c5', rfl, -⟩ := own_form hown5
  have kc := Lib.hid (Blw ki.out k6)
  have HV5 := Lib.hid hv5
  have HV15 := Lib.hid (HV14.out.below k6); have HV25 := Lib.hid (HV24.out.below k6); have HV35 := Lib.hid (HV34.out.below k6)
  have HL5 : Hid ((K.sealed key (K.pk 1 0 L1)).length ≤ 1000000000000) := Lib.hid (by have := HPL.out; omega)
  generalize hn5 : (K.sealed key (K.pk 1 0 L1)).length = n5 at *
  clear hown5 k6 hv5 ki HV14 HV24 HV34 HS4 hlen5
  go_wp2_with fail
  refine (new_yes 1 key w5 (by omega) (by omega)).mono ?_
  rintro e w6 ⟨b, own, rfl, hE, k3, ho6⟩
  have k8 := Lib.hid (Blw kc.out k3)
  have HEN : Hid (Ends w.heap.size [] w6 [(b, K.E0 1 key)]) := Lib.hid ⟨own, hE, fun x hx => ⟨by have := ho6 x hx; have := kc.out.size; omega, by simp⟩, fun k hk => hE.lt k (by simpa using hk)⟩
  have HV6 := Lib.hid (HV5.out.below k3)
  have HV16 := Lib.hid (HV15.out.below k3); have HV26 := Lib.hid (HV25.out.below k3); have HV36 := Lib.hid (HV35.out.below k3)
  clear hE k3 ho6 kc HV15 HV25 HV35 HV5
  go_wp2_with fail
  refine (ends_in HEN.out k8.out.size (Sl.ok1 key HK.out) HV6.out (by rw [hn5]; exact HL5.out)).mono ?_
  rintro e w7 ⟨v7, rfl, hr7, hT7, hK7⟩
  obtain ⟨S3, hin⟩ := Sl.inn key (L := L1) (by have := HN1.out; omega)
  rw [hin] at hr7 hT7 ⊢
  obtain ⟨gz, cz, us, ez, hcz, hvz, hlz, -, -, hgz, hgz2⟩ := hr7.rep (by simp)
  subst ez
  obtain ⟨uz, rfl⟩ : ∃ uz, us = [uz] := by
   match us, hlz with
   | [uz], _ => exact ⟨uz, rfl⟩
  have hbz := hvz.2 0 _ _ rfl rfl
  have HBZ := Lib.hid hbz
  obtain ⟨Az, czz, rfl, -⟩ := hbz
  have HCZ : Hid (∀ wx, Below w7.heap.size w7 wx → wx.cell? ⟨gz, 0, none⟩ = some (.slice Az L1.length czz)) := Lib.hid (fun wx hb => (hb.cell (p := ⟨gz, 0, none⟩) hgz2).trans (hcz 0 _ rfl))
  have kj := Lib.hid (k8.out.trans (hK7.below k8.out.size))
  have HV17 := Lib.hid (HV16.out.kb hK7.kb); have HV27 := Lib.hid (HV26.out.kb hK7.kb); have HV37 := Lib.hid (HV36.out.kb hK7.kb)
  have HRS : Hid (∀ wx, Below w7.heap.size w7 wx → Calls Try.prog 17 #[.int .u64 key, .slice A1 n1 c1] wx (RBV X wx)) := Lib.hid (fun wx hb => by
   have h := rseal_bv key HK.out (HV17.out.below hb) (by have := HN1.out; omega)
   rw [← HX.out] at h
   exact h.mono fun _ _ h => h.bv)
  have HSM : Hid (∀ (wx : World) (u v : Value) (Y : List UInt8), BV wx u Y → BV wx v Y → Calls Try.prog 29 #[u, v] wx fun e w' => e = .returned (.bool true) ∧ Below wx.heap.size wx w') := Lib.hid (fun wx u v Y h1 h2 => by
   have h := same_bv h1 h2
   rw [decide_eq_true rfl] at h
   exact h.mono fun e w' ⟨h3, n, h4⟩ => ⟨h3, by subst h4; exact bdN (Below.refl _ _) n⟩)
  have hq : (n2 : Int) = (n1 : Int) + 8 := by have := HN8.out; omega
  have HQ := Lib.hid hq
  rw [HN1.out] at HBZ HCZ
  clear hr7 hT7 hK7 HEN k8 HV6 HV16 HV26 HV36 hcz hvz hlz hgz hgz2 hin hn5 HL5 hq
  simp only [List.length_cons, List.length_nil, Nat.reduceAdd]
  have hw8 : IntKind.i64.wrap ((n1 : Int) + 8) = (n2 : Int) := by rw [← HQ.out, IntKind.wrap_i64]; omega
  go_upto_region 9 with fail
  refine gen_act ?_
  intro F_ hF_
  have ev0 : F_.eval (.tmp 0) = .int .u64 key := by rw [← hF_]; rfl
  have ev11 : F_.eval (.tmp 11) = .slice A1 n1 c1 := by rw [← hF_]; rfl
  have ev12 : F_.eval (.tmp 12) = .slice (some ⟨g2, 0, none⟩) n2 c2 := by rw [← hF_]; rfl
  have ev13 : F_.eval (.tmp 13) = .slice A3 n1 c3 := by rw [← hF_]; rfl
  have ev14 : F_.eval (.tmp 14) = .int .i64 0 := by rw [← hF_]; rfl
  have ev18 : F_.eval (.tmp 18) = .slice (some ⟨gz, 0, none⟩) 1 cz := by rw [← hF_]; rfl
  have ev19 : F_.eval (.tmp 19) = .int .i64 0 := by rw [← hF_]; rfl
  have hsz_ : ∀ d ∈ ([(65, []), (66, [0]), (67, [1]), (68, [2]), (69, [3, 2]), (70, [2, 4]), (71, [5]), (72, [6]), (73, [7, 6]), (74, [8, 6]), (75, [6, 9]), (76, [10]), (77, [11]), (78, [12, 11]), (79, [13, 11]), (80, [11]), (81, [14, 15, 11]), (82, [16, 11]), (83, [11, 17]), (84, [18]), (85, [19]), (86, [20, 19]), (87, [19]), (88, [22, 19]), (89, [23, 19]), (90, [21, 24, 19]), (91, [19, 25]), (92, [26]), (93, [27]), (94, [27]), (95, [28, 29, 27]), (96, [30, 27]), (97, [27, 31]), (98, [32]), (99, [33]), (100, [33]), (101, [33]), (102, [35, 36, 33]), (103, [34, 37, 33]), (104, [38, 33]), (105, [33, 39])] : List (Nat × List Nat)).map (·.1), d < F_.tmps.size := by rw [← hF_]; simp
  have HF_ := Lib.hid hF_; clear hF_
  refine wp_flow_tabG false rfl 41 [(65, []), (66, [0]), (67, [1]), (68, [2]), (69, [3, 2]), (70, [2, 4]), (71, [5]), (72, [6]), (73, [7, 6]), (74, [8, 6]), (75, [6, 9]), (76, [10]), (77, [11]), (78, [12, 11]), (79, [13, 11]), (80, [11]), (81, [14, 15, 11]), (82, [16, 11]), (83, [11, 17]), (84, [18]), (85, [19]), (86, [20, 19]), (87, [19]), (88, [22, 19]), (89, [23, 19]), (90, [21, 24, 19]), (91, [19, 25]), (92, [26]), (93, [27]), (94, [27]), (95, [28, 29, 27]), (96, [30, 27]), (97, [27, 31]), (98, [32]), (99, [33]), (100, [33]), (101, [33]), (102, [35, 36, 33]), (103, [34, 37, 33]), (104, [38, 33]), (105, [33, 39])] [SC (.int .i64 0), SC (.bool false), SC (.bool false), SC (.int .i64 0), SC (.bool false), SC (.bool false), SC (.bool false), SC (.slice (some ⟨gz, 0, none⟩) 1 cz), SC (.int .i64 1), SC (.bool false), SC (.bool false), SC (.bool false), SC (.slice (some ⟨gz, 0, none⟩) 1 cz), SC (.pointer (some ⟨gz, 0, none⟩)), SC (.slice Az n1 czz), SC (.slice A1 n1 c1), SC (.bool true), SC (.bool false), SC (.bool false), SC (.bool false), SC (.slice (some ⟨g2, 0, none⟩) n2 c2), SC (.int .i64 ((n2 : Nat) : Int)), SC (.slice A1 n1 c1), SC (.int .i64 ((n1 : Nat) : Int)), SC (.int .i64 (n2 : Int)), SC (.bool false), SC (.bool false), SC (.bool false), SC (.slice A3 n1 c3), SC (.slice A1 n1 c1), SC (.bool true), SC (.bool false), SC (.bool false), SC (.bool false), SC (.slice (some ⟨g2, 0, none⟩) n2 c2), SC (.int .u64 key), SC (.slice A1 n1 c1), SY X, SC (.bool true), SC (.bool false), SC (.bool false)] [false, false, false, false, false, false, false, false, false, false, false, false, false, false, false, false, false, false, false, false, false, false, false, false, false, false, false, false, false, false, false, false, false, false, false, false, false, false, false, false, false] (by kernel_rfl) (by kernel_rfl) (by kernel_rfl) (by kernel_rfl) (by kernel_rfl) hsz_ ⟨SC.mono _, SC.mono _, SC.mono _, SC.mono _, SC.mono _, SC.mono _, SC.mono _, SC.mono _, SC.mono _, SC.mono _, SC.mono _, SC.mono _, SC.mono _, SC.mono _, SC.mono _, SC.mono _, SC.mono _, SC.mono _, SC.mono _, SC.mono _, SC.mono _, SC.mono _, SC.mono _, SC.mono _, SC.mono _, SC.mono _, SC.mono _, SC.mono _, SC.mono _, SC.mono _, SC.mono _, SC.mono _, SC.mono _, SC.mono _, SC.mono _, SC.mono _, SC.mono _, SY.mono _, SC.mono _, SC.mono _, SC.mono _, trivial⟩ ?_ ?_
  ·intro kq hkq a wx hB hp hs
   have hBo : Below w7.heap.size w7 wx := hB
   have hcase : kq = 0 ∨ kq = 1 ∨ kq = 2 ∨ kq = 3 ∨ kq = 4 ∨ kq = 5 ∨ kq = 6 ∨ kq = 7 ∨ kq = 8 ∨ kq = 9 ∨ kq = 10 ∨ kq = 11 ∨ kq = 12 ∨ kq = 13 ∨ kq = 14 ∨ kq = 15 ∨ kq = 16 ∨ kq = 17 ∨ kq = 18 ∨ kq = 19 ∨ kq = 20 ∨ kq = 21 ∨ kq = 22 ∨ kq = 23 ∨ kq = 24 ∨ kq = 25 ∨ kq = 26 ∨ kq = 27 ∨ kq = 28 ∨ kq = 29 ∨ kq = 30 ∨ kq = 31 ∨ kq = 32 ∨ kq = 33 ∨ kq = 34 ∨ kq = 35 ∨ kq = 36 ∨ kq = 37 ∨ kq = 38 ∨ kq = 39 ∨ kq = 40 := by omega
   rcases hcase with rfl | rfl | rfl | rfl | rfl | rfl | rfl | rfl | rfl | rfl | rfl | rfl | rfl | rfl | rfl | rfl | rfl | rfl | rfl | rfl | rfl | rfl | rfl | rfl | rfl | rfl | rfl | rfl | rfl | rfl | rfl | rfl | rfl | rfl | rfl | rfl | rfl | rfl | rfl | rfl | rfl
   ·clear hp
    exact ⟨_, rfl, .inl ⟨wanted_none rfl, op_mv (s := SC _) rfl ((hs 14 rfl).trans ev14)⟩⟩
   ·obtain ⟨k0, -⟩ := hp
    have e0 : a.eval (.tmp 65) = .int .i64 0 := k0
    simp [Act.eval] at e0
    exact ⟨_, rfl, .inl ⟨wanted_none rfl, Does.val (by simp [execOp, Act.eval, e0, go_sem]) rfl⟩⟩
   ·obtain ⟨k0, -⟩ := hp
    exact ⟨_, rfl, .inl ⟨wanted_none rfl, op_mv (s := SC _) rfl k0⟩⟩
   ·obtain ⟨k0, -⟩ := hp
    have hgd : a.eval (.tmp 67) = .bool false := k0
    exact ⟨_, rfl, .inl ⟨(wanted_of rfl rfl hgd).trans rfl, op_mv (s := SC _) rfl ((hs 19 rfl).trans ev19)⟩⟩
   ·obtain ⟨k0, k1, -⟩ := hp
    have hgd : a.eval (.tmp 67) = .bool false := k1
    have e0 : a.eval (.tmp 68) = .int .i64 0 := k0
    simp [Act.eval] at e0
    exact ⟨_, rfl, .inl ⟨(wanted_of rfl rfl hgd).trans rfl, Does.val (by simp [execOp, Act.eval, e0, go_sem]) rfl⟩⟩
   ·obtain ⟨k0, k1, -⟩ := hp
    have e0 : a.eval (.tmp 67) = .bool false := k0
    simp [Act.eval] at e0
    have e1 : a.eval (.tmp 69) = .bool false := k1
    simp [Act.eval] at e1
    exact ⟨_, rfl, .inl ⟨wanted_none rfl, Does.val (by simp [execOp, Act.eval, e0, e1, go_sem]) rfl⟩⟩
   ·obtain ⟨k0, -⟩ := hp
    exact ⟨_, rfl, .inl ⟨wanted_none rfl, op_mv (s := SC _) rfl k0⟩⟩
   ·obtain ⟨k0, -⟩ := hp
    have hgd : a.eval (.tmp 71) = .bool false := k0
    exact ⟨_, rfl, .inl ⟨(wanted_of rfl rfl hgd).trans rfl, op_mv (s := SC _) rfl ((hs 18 rfl).trans ev18)⟩⟩
   ·obtain ⟨k0, k1, -⟩ := hp
    have hgd : a.eval (.tmp 71) = .bool false := k1
    have e0 : a.eval (.tmp 72) = .slice (some ⟨gz, 0, none⟩) 1 cz := k0
    simp [Act.eval] at e0
    exact ⟨_, rfl, .inl ⟨(wanted_of rfl rfl hgd).trans rfl, Does.val (by simp [execOp, Act.eval, e0, go_sem]) rfl⟩⟩
   ·obtain ⟨k0, k1, -⟩ := hp
    have hgd : a.eval (.tmp 71) = .bool false := k1
    have e0 : a.eval (.tmp 73) = .int .i64 1 := k0
    simp [Act.eval] at e0
    exact ⟨_, rfl, .inl ⟨(wanted_of rfl rfl hgd).trans rfl, Does.val (by simp [execOp, Act.eval, e0, go_sem]) rfl⟩⟩
   ·obtain ⟨k0, k1, -⟩ := hp
    have e0 : a.eval (.tmp 71) = .bool false := k0
    simp [Act.eval] at e0
    have e1 : a.eval (.tmp 74) = .bool false := k1
    simp [Act.eval] at e1
    exact ⟨_, rfl, .inl ⟨wanted_none rfl, Does.val (by simp [execOp, Act.eval, e0, e1, go_sem]) rfl⟩⟩
   ·obtain ⟨k0, -⟩ := hp
    exact ⟨_, rfl, .inl ⟨wanted_none rfl, op_mv (s := SC _) rfl k0⟩⟩
   ·obtain ⟨k0, -⟩ := hp
    have hgd : a.eval (.tmp 76) = .bool false := k0
    exact ⟨_, rfl, .inl ⟨(wanted_of rfl rfl hgd).trans rfl, op_mv (s := SC _) rfl ((hs 18 rfl).trans ev18)⟩⟩
   ·obtain ⟨k0, k1, -⟩ := hp
    have hgd : a.eval (.tmp 76) = .bool false := k1
    have e0 : a.eval (.tmp 77) = .slice (some ⟨gz, 0, none⟩) 1 cz := k0
    simp [Act.eval] at e0
    exact ⟨_, rfl, .inl ⟨(wanted_of rfl rfl hgd).trans rfl, Does.val (by simp [execOp, Act.eval, e0, go_sem]) rfl⟩⟩
   ·obtain ⟨k0, k1, -⟩ := hp
    have hgd : a.eval (.tmp 76) = .bool false := k1
    have e0 : a.eval (.tmp 78) = .pointer (some ⟨gz, 0, none⟩) := k0
    simp [Act.eval] at e0
    exact ⟨_, rfl, .inl ⟨(wanted_of rfl rfl hgd).trans rfl, Does.val (by simp [execOp, Act.eval, e0, go_sem, HCZ.out wx hBo]) rfl⟩⟩
   ·obtain ⟨k0, -⟩ := hp
    have hgd : a.eval (.tmp 76) = .bool false := k0
    exact ⟨_, rfl, .inl ⟨(wanted_of rfl rfl hgd).trans rfl, op_mv (s := SC _) rfl ((hs 11 rfl).trans ev11)⟩⟩
   ·obtain ⟨k0, k1, k2, -⟩ := hp
    have hgd : a.eval (.tmp 76) = .bool false := k2
    exact ⟨_, rfl, .inl ⟨(wanted_of rfl rfl hgd).trans rfl, Does.rc (f := 29) (call2 rfl (fun _ => by simp [go_sem]) k0 k1) (HSM.out wx _ _ L1 (HBZ.out.below hBo) (HV17.out.below hBo))⟩⟩
   ·obtain ⟨k0, k1, -⟩ := hp
    have hgd : a.eval (.tmp 76) = .bool false := k1
    have e0 : a.eval (.tmp 81) = .bool true := k0
    simp [Act.eval] at e0
    exact ⟨_, rfl, .inl ⟨(wanted_of rfl rfl hgd).trans rfl, Does.val (by simp [execOp, Act.eval, e0, go_sem]) rfl⟩⟩
   ·obtain ⟨k0, k1, -⟩ := hp
    have e0 : a.eval (.tmp 76) = .bool false := k0
    simp [Act.eval] at e0
    have e1 : a.eval (.tmp 82) = .bool false := k1
    simp [Act.eval] at e1
    exact ⟨_, rfl, .inl ⟨wanted_none rfl, Does.val (by simp [execOp, Act.eval, e0, e1, go_sem]) rfl⟩⟩
   ·obtain ⟨k0, -⟩ := hp
    exact ⟨_, rfl, .inl ⟨wanted_none rfl, op_mv (s := SC _) rfl k0⟩⟩
   ·obtain ⟨k0, -⟩ := hp
    have hgd : a.eval (.tmp 84) = .bool false := k0
    exact ⟨_, rfl, .inl ⟨(wanted_of rfl rfl hgd).trans rfl, op_mv (s := SC _) rfl ((hs 12 rfl).trans ev12)⟩⟩
   ·obtain ⟨k0, k1, -⟩ := hp
    have hgd : a.eval (.tmp 84) = .bool false := k1
    have e0 : a.eval (.tmp 85) = .slice (some ⟨g2, 0, none⟩) n2 c2 := k0
    simp [Act.eval] at e0
    exact ⟨_, rfl, .inl ⟨(wanted_of rfl rfl hgd).trans rfl, Does.val (by simp [execOp, Act.eval, e0, go_sem]) rfl⟩⟩
   ·obtain ⟨k0, -⟩ := hp
    have hgd : a.eval (.tmp 84) = .bool false := k0
    exact ⟨_, rfl, .inl ⟨(wanted_of rfl rfl hgd).trans rfl, op_mv (s := SC _) rfl ((hs 11 rfl).trans ev11)⟩⟩
   ·obtain ⟨k0, k1, -⟩ := hp
    have hgd : a.eval (.tmp 84) = .bool false := k1
    have e0 : a.eval (.tmp 87) = .slice A1 n1 c1 := k0
    simp [Act.eval] at e0
    exact ⟨_, rfl, .inl ⟨(wanted_of rfl rfl hgd).trans rfl, Does.val (by simp [execOp, Act.eval, e0, go_sem]) rfl⟩⟩
   ·obtain ⟨k0, k1, -⟩ := hp
    have hgd : a.eval (.tmp 84) = .bool false := k1
    have e0 : a.eval (.tmp 88) = .int .i64 ((n1 : Nat) : Int) := k0
    simp [Act.eval] at e0
    exact ⟨_, rfl, .inl ⟨(wanted_of rfl rfl hgd).trans rfl, Does.val (by simp [execOp, Act.eval, e0, go_sem, hw8]) rfl⟩⟩
   ·obtain ⟨k0, k1, k2, -⟩ := hp
    have hgd : a.eval (.tmp 84) = .bool false := k2
    have e0 : a.eval (.tmp 86) = .int .i64 ((n2 : Nat) : Int) := k0
    simp [Act.eval] at e0
    have e1 : a.eval (.tmp 89) = .int .i64 (n2 : Int) := k1
    simp [Act.eval] at e1
    exact ⟨_, rfl, .inl ⟨(wanted_of rfl rfl hgd).trans rfl, Does.val (by simp [execOp, Act.eval, e0, e1, go_sem]) rfl⟩⟩
   ·obtain ⟨k0, k1, -⟩ := hp
    have e0 : a.eval (.tmp 84) = .bool false := k0
    simp [Act.eval] at e0
    have e1 : a.eval (.tmp 90) = .bool false := k1
    simp [Act.eval] at e1
    exact ⟨_, rfl, .inl ⟨wanted_none rfl, Does.val (by simp [execOp, Act.eval, e0, e1, go_sem]) rfl⟩⟩
   ·obtain ⟨k0, -⟩ := hp
    exact ⟨_, rfl, .inl ⟨wanted_none rfl, op_mv (s := SC _) rfl k0⟩⟩
   ·obtain ⟨k0, -⟩ := hp
    have hgd : a.eval (.tmp 92) = .bool false := k0
    exact ⟨_, rfl, .inl ⟨(wanted_of rfl rfl hgd).trans rfl, op_mv (s := SC _) rfl ((hs 13 rfl).trans ev13)⟩⟩
   ·obtain ⟨k0, -⟩ := hp
    have hgd : a.eval (.tmp 92) = .bool false := k0
    exact ⟨_, rfl, .inl ⟨(wanted_of rfl rfl hgd).trans rfl, op_mv (s := SC _) rfl ((hs 11 rfl).trans ev11)⟩⟩
   ·obtain ⟨k0, k1, k2, -⟩ := hp
    have hgd : a.eval (.tmp 92) = .bool false := k2
    exact ⟨_, rfl, .inl ⟨(wanted_of rfl rfl hgd).trans rfl, Does.rc (f := 29) (call2 rfl (fun _ => by simp [go_sem]) k0 k1) (HSM.out wx _ _ L1 (HV37.out.below hBo) (HV17.out.below hBo))⟩⟩
   ·obtain ⟨k0, k1, -⟩ := hp
    have hgd : a.eval (.tmp 92) = .bool false := k1
    have e0 : a.eval (.tmp 95) = .bool true := k0
    simp [Act.eval] at e0
    exact ⟨_, rfl, .inl ⟨(wanted_of rfl rfl hgd).trans rfl, Does.val (by simp [execOp, Act.eval, e0, go_sem]) rfl⟩⟩
   ·obtain ⟨k0, k1, -⟩ := hp
    have e0 : a.eval (.tmp 92) = .bool false := k0
    simp [Act.eval] at e0
    have e1 : a.eval (.tmp 96) = .bool false := k1
    simp [Act.eval] at e1
    exact ⟨_, rfl, .inl ⟨wanted_none rfl, Does.val (by simp [execOp, Act.eval, e0, e1, go_sem]) rfl⟩⟩
   ·obtain ⟨k0, -⟩ := hp
    exact ⟨_, rfl, .inl ⟨wanted_none rfl, op_mv (s := SC _) rfl k0⟩⟩
   ·obtain ⟨k0, -⟩ := hp
    have hgd : a.eval (.tmp 98) = .bool false := k0
    exact ⟨_, rfl, .inl ⟨(wanted_of rfl rfl hgd).trans rfl, op_mv (s := SC _) rfl ((hs 12 rfl).trans ev12)⟩⟩
   ·obtain ⟨k0, -⟩ := hp
    have hgd : a.eval (.tmp 98) = .bool false := k0
    exact ⟨_, rfl, .inl ⟨(wanted_of rfl rfl hgd).trans rfl, op_mv (s := SC _) rfl ((hs 0 rfl).trans ev0)⟩⟩
   ·obtain ⟨k0, -⟩ := hp
    have hgd : a.eval (.tmp 98) = .bool false := k0
    exact ⟨_, rfl, .inl ⟨(wanted_of rfl rfl hgd).trans rfl, op_mv (s := SC _) rfl ((hs 11 rfl).trans ev11)⟩⟩
   ·obtain ⟨k0, k1, k2, -⟩ := hp
    have hgd : a.eval (.tmp 98) = .bool false := k2
    exact ⟨_, rfl, .inl ⟨(wanted_of rfl rfl hgd).trans rfl, Does.ry (f := 17) (call2 rfl (fun _ => by simp [go_sem]) k0 k1) (HRS.out wx hBo)⟩⟩
   ·obtain ⟨k0, k1, k2, -⟩ := hp
    have hgd : a.eval (.tmp 98) = .bool false := k2
    exact ⟨_, rfl, .inl ⟨(wanted_of rfl rfl hgd).trans rfl, Does.rc (f := 29) (call2 rfl (fun _ => by simp [go_sem]) k0 rfl) (HSM.out wx _ _ X (HV27.out.below hBo) k1)⟩⟩
   ·obtain ⟨k0, k1, -⟩ := hp
    have hgd : a.eval (.tmp 98) = .bool false := k1
    have e0 : a.eval (.tmp 103) = .bool true := k0
    simp [Act.eval] at e0
    exact ⟨_, rfl, .inl ⟨(wanted_of rfl rfl hgd).trans rfl, Does.val (by simp [execOp, Act.eval, e0, go_sem]) rfl⟩⟩
   ·obtain ⟨k0, k1, -⟩ := hp
    have e0 : a.eval (.tmp 98) = .bool false := k0
    simp [Act.eval] at e0
    have e1 : a.eval (.tmp 104) = .bool false := k1
    simp [Act.eval] at e1
    exact ⟨_, rfl, .inl ⟨wanted_none rfl, Does.val (by simp [execOp, Act.eval, e0, e1, go_sem]) rfl⟩⟩
  ·intro val wx hB hsp hdis
   have hBo : Below w7.heap.size w7 wx := hB
   have e40 : val 40 = .bool false := hsp 40 (by omega)
   rw [← HF_.out]
   change wpList _ _ _ [] _ _
   simp only [puts_consT, puts_nilm, vals, List.map_cons, List.map_nil, Nat.zero_add, Nat.reduceAdd, e40, List.setIfInBounds_toArray, List.set_cons_succ, List.set_cons_zero]
   clear hsp hdis HF_ hsz_ hB e40 ev0 ev11 ev12 ev13 ev14 ev18 ev19
   obtain ⟨w8, rfl⟩ : ∃ w8 : World, w8 = wx := ⟨_, rfl⟩
   have kl := Lib.hid (Blw kj.out hBo)
   have HV18 := Lib.hid (HV17.out.below hBo); have HV28 := Lib.hid (HV27.out.below hBo)
   have hfx := few_bv HV28.out n2 (by omega)
   rw [show X.take n2 = X from by rw [HN.out]; exact List.take_length] at hfx
   have HFX := Lib.hid hfx
   clear hBo kj HV17 HV27 HV37 HBZ HCZ HRS HSM hfx hw8
   go_wp2_with fail
   refine HFX.out.mono ?_
   rintro e w9 ⟨v9, rfl, hown9, km⟩
   obtain ⟨g9, c9, rfl, ks, hm9, hg9, hgs9⟩ := own_pos hown9 (by have := HN.out; omega)
   rw [← HN.out] at ks ⊢
   obtain ⟨k, hk, hk2⟩ := K.ar_nat at_ n2 (by omega)
   have ha := ar_any at_ n2 w9 hat (by omega) (by omega)
   rw [hk] at ha
   obtain ⟨x, hx⟩ : ∃ x, X[k]? = some x := ⟨_, List.getElem?_eq_getElem (by have := HN.out; omega)⟩
   have hcell := own_cells hown9 k _ (bc_some hx)
   rw [Addr.add_lit, Nat.zero_add] at hcell
   have hfz := own_frozen hown9 k
   have HO9 := Lib.hid hown9
   have kn := Lib.hid km
   have hk4 : (k : Int) < (n2 : Int) := by omega
   have hkd := decide_eq_true hk4
   clear hown9 km hk hx HFX
   go_wp2_with fail
   refine ha.mono ?_
   rintro e w10 ⟨rfl, rfl⟩
   clear ha
   go_upto_region 13 with fail
   have hown10 := own_put HO9.out k (.int .u8 (cb.toNat : Int))
   rw [bc_set] at hown10
   have k9 : Below w8.heap.size w8 (w9.setCell ⟨g9, k, none⟩ (.int .u8 (cb.toNat : Int))) := kn.out.setCell hg9 _
   generalize hW10 : w9.setCell ⟨g9, k, none⟩ (.int .u8 (cb.toNat : Int)) = w10 at *
   obtain ⟨Y, hY⟩ : ∃ Y, Y = X.set k cb := ⟨_, rfl⟩
   have hlY : Y.length = n2 := by rw [hY, List.length_set, HN.out]
   rw [← hY] at hown10
   have hv10 : BV w10 (.slice (some ⟨g9, 0, none⟩) n2 c9) Y := by
    refine BV.own (base := w8.heap.size) ?_
    rw [hlY]; rw [← HN.out] at hown10; exact hown10
   have HV10 := Lib.hid hv10
   have ko := Lib.hid (Blw kl.out k9)
   have HV1A := Lib.hid (HV18.out.below k9); have HV2A := Lib.hid (HV28.out.below k9)
   obtain ⟨m2', hmm⟩ : ∃ m : Nat, m + 1 = n2 := ⟨n2 - 1, by omega⟩
   have hmi : IntKind.i64.wrap ((n2 : Int) - 1) = (m2' : Int) := by rw [IntKind.wrap_i64]; omega
   have hmc : m2' ≤ c2 := by omega
   have HMM := Lib.hid hmm
   have HV3A := Lib.hid (HV2A.out.take m2' (by have := HN.out; omega))
   have HFX : Hid (∀ wx, Below w10.heap.size w10 wx → Calls Try.prog 16 #[.slice (some ⟨g2, 0, none⟩) n2 c2, .int .i64 (n2 : Int)] wx (RB_ X wx)) := Lib.hid (fun wx hb => by
    have h := few_bv (HV2A.out.below hb) n2 (by omega)
    rw [show X.take n2 = X from by rw [HN.out]; exact List.take_length] at h
    exact h)
   have HLY := Lib.hid hlY
   have HXL : Hid (X.length + [cb].length ≤ 1000000000000) := Lib.hid (by rw [← HN.out, List.length_singleton]; omega)
   clear hown10 k9 hW10 hY hlY hv10 hmm hcell hfz hk4 hkd HO9 kn HV18 HV28 kl
   generalize hW_13 : w10.drew = W_13
   refine gen_act ?_
   intro F_ hF_
   have ev4 : F_.eval (.tmp 4) = .int .u8 (cb.toNat : Int) := by rw [← hF_]; rfl
   have ev11 : F_.eval (.tmp 11) = .slice A1 n1 c1 := by rw [← hF_]; rfl
   have ev12 : F_.eval (.tmp 12) = .slice (some ⟨g2, 0, none⟩) n2 c2 := by rw [← hF_]; rfl
   have ev20 : F_.eval (.tmp 20) = .slice (some ⟨g9, 0, none⟩) n2 c9 := by rw [← hF_]; rfl
   have hsz_ : ∀ d ∈ ([(117, []), (118, []), (119, []), (120, [2]), (121, [3]), (122, [1, 4]), (123, []), (124, []), (125, []), (126, []), (127, [9]), (128, [8, 10]), (129, []), (130, [12]), (131, [11, 13])] : List (Nat × List Nat)).map (·.1), d < F_.tmps.size := by rw [← hF_]; simp
   have HF_ := Lib.hid hF_; clear hF_
   have hmU_ : ∀ k, k ≠ 14 → k ∉ [11, 13] → MonoT (TB w10.heap.size) (nthS [SC (.slice (some ⟨g9, 0, none⟩) n2 c9), SC (.slice (some ⟨g2, 0, none⟩) n2 c2), SC (.slice (some ⟨g2, 0, none⟩) n2 c2), SC (.int .i64 ((n2 : Nat) : Int)), SC (.int .i64 (m2' : Int)), SC (.slice (some ⟨g2, 0, none⟩) m2' c2), SC (.slice A1 n1 c1), SC (.slice (some ⟨g2, 0, none⟩) n2 c2), SC (.slice (some ⟨g2, 0, none⟩) n2 c2), SC (.slice (some ⟨g2, 0, none⟩) n2 c2), SC (.int .i64 ((n2 : Nat) : Int)), SOwn w10.heap.size X, SC (.int .u8 (cb.toNat : Int)), SRow 5 [.int .u8 (cb.toNat : Int)], SOwn w10.heap.size (X ++ [cb])] k) := by
    intro k h1 h2
    match k, h1, h2 with
    | 0, _, _ => exact (fun _ _ _ h _ => h)
    | 1, _, _ => exact (fun _ _ _ h _ => h)
    | 2, _, _ => exact (fun _ _ _ h _ => h)
    | 3, _, _ => exact (fun _ _ _ h _ => h)
    | 4, _, _ => exact (fun _ _ _ h _ => h)
    | 5, _, _ => exact (fun _ _ _ h _ => h)
    | 6, _, _ => exact (fun _ _ _ h _ => h)
    | 7, _, _ => exact (fun _ _ _ h _ => h)
    | 8, _, _ => exact (fun _ _ _ h _ => h)
    | 9, _, _ => exact (fun _ _ _ h _ => h)
    | 10, _, _ => exact (fun _ _ _ h _ => h)
    | 11, _, h2 => exact absurd (by decide) h2
    | 12, _, _ => exact (fun _ _ _ h _ => h)
    | 13, _, h2 => exact absurd (by decide) h2
    | 14, h1, _ => exact absurd rfl h1
    | k + 15, _, _ => exact fun _ _ _ _ _ => trivial
   refine wp_flow_tabGU (T := TB w10.heap.size) (TB.rel _) true hW_13 15 [(117, []), (118, []), (119, []), (120, [2]), (121, [3]), (122, [1, 4]), (123, []), (124, []), (125, []), (126, []), (127, [9]), (128, [8, 10]), (129, []), (130, [12]), (131, [11, 13])] [SC (.slice (some ⟨g9, 0, none⟩) n2 c9), SC (.slice (some ⟨g2, 0, none⟩) n2 c2), SC (.slice (some ⟨g2, 0, none⟩) n2 c2), SC (.int .i64 ((n2 : Nat) : Int)), SC (.int .i64 (m2' : Int)), SC (.slice (some ⟨g2, 0, none⟩) m2' c2), SC (.slice A1 n1 c1), SC (.slice (some ⟨g2, 0, none⟩) n2 c2), SC (.slice (some ⟨g2, 0, none⟩) n2 c2), SC (.slice (some ⟨g2, 0, none⟩) n2 c2), SC (.int .i64 ((n2 : Nat) : Int)), SOwn w10.heap.size X, SC (.int .u8 (cb.toNat : Int)), SRow 5 [.int .u8 (cb.toNat : Int)], SOwn w10.heap.size (X ++ [cb])] [false, false, false, false, false, false, false, false, false, false, false, false, false, false, false] (by kernel_rfl) (by kernel_rfl) (by kernel_rfl) (by kernel_rfl) (by kernel_rfl) hsz_ 14 [11, 13] (by kernel_rfl) ⟨SC.mono _, SC.mono _, SC.mono _, SC.mono _, SC.mono _, SC.mono _, SC.mono _, SC.mono _, SC.mono _, SC.mono _, SC.mono _, SOwn.mono _ _, SC.mono _, SRow.mono _ _, SOwn.mono _ _, trivial⟩ hmU_ ?_ ?_
   ·intro kq hkq a wx hB hBb hp hs
    have hBo : Below w10.heap.size w10 wx := dU hW_13 hB
    have hcase : kq = 0 ∨ kq = 1 ∨ kq = 2 ∨ kq = 3 ∨ kq = 4 ∨ kq = 5 ∨ kq = 6 ∨ kq = 7 ∨ kq = 8 ∨ kq = 9 ∨ kq = 10 ∨ kq = 11 ∨ kq = 12 ∨ kq = 13 ∨ kq = 14 := by omega
    rcases hcase with rfl | rfl | rfl | rfl | rfl | rfl | rfl | rfl | rfl | rfl | rfl | rfl | rfl | rfl | rfl
    ·clear hp
     exact ⟨_, rfl, .inr ⟨by decide, .inl ⟨wanted_none rfl, op_mv (s := SC _) rfl ((hs 20 rfl).trans ev20)⟩⟩⟩
    ·clear hp
     exact ⟨_, rfl, .inr ⟨by decide, .inl ⟨wanted_none rfl, op_mv (s := SC _) rfl ((hs 12 rfl).trans ev12)⟩⟩⟩
    ·clear hp
     exact ⟨_, rfl, .inr ⟨by decide, .inl ⟨wanted_none rfl, op_mv (s := SC _) rfl ((hs 12 rfl).trans ev12)⟩⟩⟩
    ·obtain ⟨k0, -⟩ := hp
     have e0 : a.eval (.tmp 119) = .slice (some ⟨g2, 0, none⟩) n2 c2 := k0
     simp [Act.eval] at e0
     exact ⟨_, rfl, .inr ⟨by decide, .inl ⟨wanted_none rfl, Does.val (by simp [execOp, Act.eval, e0, go_sem]) rfl⟩⟩⟩
    ·obtain ⟨k0, -⟩ := hp
     have e0 : a.eval (.tmp 120) = .int .i64 ((n2 : Nat) : Int) := k0
     simp [Act.eval] at e0
     exact ⟨_, rfl, .inr ⟨by decide, .inl ⟨wanted_none rfl, Does.val (by simp [execOp, Act.eval, e0, go_sem, hmi]) rfl⟩⟩⟩
    ·obtain ⟨k0, k1, -⟩ := hp
     have e0 : a.eval (.tmp 118) = .slice (some ⟨g2, 0, none⟩) n2 c2 := k0
     simp [Act.eval] at e0
     have e1 : a.eval (.tmp 121) = .int .i64 (m2' : Int) := k1
     simp [Act.eval] at e1
     exact ⟨_, rfl, .inr ⟨by decide, .inl ⟨wanted_none rfl, Does.val (by simp [execOp, Act.eval, e0, e1, go_sem, hmc]) rfl⟩⟩⟩
    ·clear hp
     exact ⟨_, rfl, .inr ⟨by decide, .inl ⟨wanted_none rfl, op_mv (s := SC _) rfl ((hs 11 rfl).trans ev11)⟩⟩⟩
    ·clear hp
     exact ⟨_, rfl, .inr ⟨by decide, .inl ⟨wanted_none rfl, op_mv (s := SC _) rfl ((hs 12 rfl).trans ev12)⟩⟩⟩
    ·clear hp
     exact ⟨_, rfl, .inr ⟨by decide, .inl ⟨wanted_none rfl, op_mv (s := SC _) rfl ((hs 12 rfl).trans ev12)⟩⟩⟩
    ·clear hp
     exact ⟨_, rfl, .inr ⟨by decide, .inl ⟨wanted_none rfl, op_mv (s := SC _) rfl ((hs 12 rfl).trans ev12)⟩⟩⟩
    ·obtain ⟨k0, -⟩ := hp
     have e0 : a.eval (.tmp 126) = .slice (some ⟨g2, 0, none⟩) n2 c2 := k0
     simp [Act.eval] at e0
     exact ⟨_, rfl, .inr ⟨by decide, .inl ⟨wanted_none rfl, Does.val (by simp [execOp, Act.eval, e0, go_sem]) rfl⟩⟩⟩
    ·obtain ⟨k0, k1, -⟩ := hp
     exact ⟨_, rfl, .inr ⟨by decide, .inl ⟨wanted_none rfl, Does.ro (f := 16) (call2 rfl (fun _ => by simp [go_sem]) k0 k1) (HFX.out wx hBo) hBo.size⟩⟩⟩
    ·clear hp
     exact ⟨_, rfl, .inr ⟨by decide, .inl ⟨wanted_none rfl, op_mv (s := SC _) rfl ((hs 4 rfl).trans ev4)⟩⟩⟩
    ·obtain ⟨k0, -⟩ := hp
     exact ⟨_, rfl, .inr ⟨by decide, .inl ⟨wanted_none rfl, op_row1 (T := 5) (by rfl) k0 (by simp [go_sem])⟩⟩⟩
    ·obtain ⟨k0, k1, -⟩ := hp
     obtain ⟨gb, eb, hxb⟩ := k1
     have hBk : Below w10.heap.size w10 wx := dB hW_13 (hBb rfl)
     exact ⟨_, rfl, .inl ⟨rfl, .inl ⟨wanted_none rfl, op_bapp (m := [cb]) rfl k0 (bv_row1 eb hxb) hBk.size HXL.out⟩⟩⟩
   ·intro val wx hB hsp hdis
    have hBo : Below w10.heap.size w10 wx := dU hW_13 hB
    have e0 : val 0 = .slice (some ⟨g9, 0, none⟩) n2 c9 := hsp 0 (by omega) (by decide)
    have e5 : val 5 = .slice (some ⟨g2, 0, none⟩) m2' c2 := hsp 5 (by omega) (by decide)
    have e6 : val 6 = .slice A1 n1 c1 := hsp 6 (by omega) (by decide)
    have e7 : val 7 = .slice (some ⟨g2, 0, none⟩) n2 c2 := hsp 7 (by omega) (by decide)
    have h14 : (SOwn w10.heap.size (X ++ [cb])) wx (val 14) := hsp 14 (by omega) (by decide)
    generalize e14 : val 14 = u14 at h14
    rw [← HF_.out]
    change wpList _ _ _ [_, _] _ _
    simp only [puts_consT, puts_nilm, vals, List.map_cons, List.map_nil, Nat.zero_add, Nat.reduceAdd, e0, e5, e6, e7, e14, List.setIfInBounds_toArray, List.set_cons_succ, List.set_cons_zero]
    clear hsp hdis HF_ hsz_ hB hW_13 e0 e5 e6 e7 e14 ev4 ev11 ev12 ev20
    have hown12 : wx.ownsRow w10.heap.size 5 1 u14 (X ++ [cb]).length (W.bc (X ++ [cb])) := h14
    clear h14
    obtain ⟨w12, rfl⟩ : ∃ w12 : World, w12 = wx := ⟨_, rfl⟩
    obtain ⟨v12, rfl⟩ : ∃ v12 : Value, v12 = u14 := ⟨_, rfl⟩
    have k4 := hBo
    have hl12 : (X ++ [cb]).length = n2 + 1 := by rw [List.length_append, ← HN.out]; rfl
    rw [hl12] at hown12
    clear hBo
    have hv12 : BV w12 v12 (X ++ [cb]) := BV.own (base := w10.heap.size) (by rw [hl12]; exact hown12)
    obtain ⟨A12, c12, rfl, -⟩ := own_form hown12
    have hvs : Vs w12 [.slice (some ⟨g9, 0, none⟩) n2 c9, .slice (some ⟨g2, 0, none⟩) m2' c2, .slice A1 n1 c1, .slice (some ⟨g2, 0, none⟩) n2 c2, .slice none 0 0, .slice A12 (n2 + 1) c12] [Y, X.take m2', L1, X, [], X ++ [cb]] := by
     refine ⟨rfl, ?_⟩
     intro i v l h1 h2
     match i, h1, h2 with
     | 0, h1, h2 => cases h1; cases h2; exact HV10.out.below k4
     | 1, h1, h2 => cases h1; cases h2; exact HV3A.out.below k4
     | 2, h1, h2 => cases h1; cases h2; exact HV1A.out.below k4
     | 3, h1, h2 => cases h1; cases h2; exact HV2A.out.below k4
     | 4, h1, h2 => cases h1; cases h2; exact BV.nil _
     | 5, h1, h2 => cases h1; cases h2; exact hv12
    have HVS := Lib.hid hvs
    have kp := Lib.hid (Blw ko.out k4)
    have HLL : Hid (∀ l ∈ [Y, X.take m2', L1, X, [], X ++ [cb]], l.length ≤ 1000000000000) := Lib.hid (by
     have h1 := HLY.out; have h2 := HN.out; have h3 := HN1.out
     intro l hl
     simp only [List.mem_cons, List.not_mem_nil, or_false] at hl
     rcases hl with rfl | rfl | rfl | rfl | rfl | rfl
     ·omega
     ·rw [List.length_take]; omega
     ·omega
     ·omega
     ·simp
     ·rw [List.length_append, List.length_singleton]; omega)
    generalize [Y, X.take m2', L1, X, [], X ++ [cb]] = TS at *
    clear hown12 k4 hv12 hvs hl12 HXL ko HV10 HV1A HV2A HV3A HFX HMM hmi hmc
    go_wp2_with fail
    generalize hW13 : (w12.alloc (.cells _ 33)).alloc (.cells _ 22) = w13
    obtain ⟨hx13, hrow13, kd⟩ := box2 hW13
    have kt := Lib.hid (Blw kp.out kd)
    have HVS13 := Lib.hid (HVS.out.kb (.of kd))
    have HX13 := Lib.hid hx13; have HR13 := Lib.hid hrow13
    obtain ⟨gt, hgt⟩ : ∃ gt, gt = w12.heap.size := ⟨_, rfl⟩
    rw [← hgt] at HX13 HR13 ⊢
    clear hW13 hx13 hrow13 kd HVS kp hgt
    generalize hus : [Value.slice (some ⟨g9, 0, none⟩) n2 c9, .slice (some ⟨g2, 0, none⟩) m2' c2, .slice A1 n1 c1, .slice (some ⟨g2, 0, none⟩) n2 c2, .slice none 0 0, .slice A12 (n2 + 1) c12] = US at HVS13 HX13
    have hul : US.length = 6 := by rw [← hus]; rfl
    clear hus
    have HUL := Lib.hid hul; clear hul
    go_loopw [23] (fun s23 wr => ∃ i : Nat, i ≤ 6 ∧ s23 = .int .i64 (i : Int) ∧ Hid (Below w13.heap.size w13 wr)) (fun ix _ => (6 - (intOf ix).toNat))
    case atStart => exact ⟨0, by omega, rfl, Lib.hid (Below.refl _ _)⟩
    case round =>
     obtain ⟨i, hi6, rfl, HBQ⟩ := hrel
     obtain ⟨wq, rfl⟩ : ∃ wq : World, wq = wr := ⟨_, rfl⟩
     by_cases hi3 : i < 6
     ·obtain ⟨u, hu⟩ : ∃ u, US[i]? = some u := ⟨_, List.getElem?_eq_getElem (by rw [HUL.out]; exact hi3)⟩
      have htl : TS.length = 6 := by rw [← HVS13.out.1]; exact HUL.out
      obtain ⟨T, hT⟩ : ∃ T, TS[i]? = some T := ⟨_, List.getElem?_eq_getElem (by rw [htl]; exact hi3)⟩
      have hbu := HVS13.out.2 i u T hu hT
      have hTl := HLL.out T (List.mem_of_getElem? hT)
      have HBU := Lib.hid hbu
      obtain ⟨Au, cu, rfl, -⟩ := hbu
      have HTC : Hid (∀ wx, Below w13.heap.size w13 wx → wx.cell? ⟨gt, i, none⟩ = some (.slice Au T.length cu)) := Lib.hid (fun wx hb => (HX13.out.below hb).cell hu)
      obtain ⟨nu, hnu⟩ : ∃ n, n = T.length := ⟨_, rfl⟩
      rw [← hnu] at HBU HTC
      have HTL := Lib.hid hTl
      have hi4 : (i : Int) < 6 := by omega
      have hi5 : (0 : Int) ≤ (i : Int) := by omega
      have hid_ := decide_eq_true hi4
      clear hu hT htl hTl hnu
      go_wp2_with fail
      go_loopw [24] (fun s24 wr => ∃ k : Nat, k ≤ 2 ∧ s24 = .int .i64 (k : Int) ∧ Hid (Below w13.heap.size w13 wr)) (fun ix _ => (2 - (intOf ix).toNat))
      case atStart => exact ⟨0, by omega, rfl, HBQ⟩
      case round =>
       obtain ⟨k, hk6, rfl, HBR⟩ := hrel
       obtain ⟨wo, rfl⟩ : ∃ wo : World, wo = wr := ⟨_, rfl⟩
       by_cases hk3 : k < 2
       ·obtain ⟨kk, hkk, hkr⟩ := Sl.keys key other HK.out HK'.out hk3
        obtain ⟨R1, E, hRE⟩ : ∃ R1 E, K.unseal kk T = (R1, E) := ⟨_, _, rfl⟩
        have HKC : Hid (∀ wx, Below w13.heap.size w13 wx → wx.cell? ⟨gt + 1, k, none⟩ = some (.int .u64 kk)) := Lib.hid (fun wx hb => (HR13.out.below hb).cell hkk)
        have HOP : Hid (∀ wx, Below w13.heap.size w13 wx → Calls Try.prog 25 #[.int .u64 kk, .slice Au nu cu] wx fun e w' => ∃ v, e = .returned v ∧ Below wx.heap.size wx w' ∧ SOpn (R1, E) w' v) := Lib.hid (fun wx hb => by
         have h := open_bv kk (HBU.out.below hb) (by have := HTL.out; omega)
         rw [hRE] at h
         exact h.mono fun e w' ⟨v, h1, h2, h3⟩ => ⟨_, h1, h3, v, rfl, BV.own h2⟩)
        have HRO : Hid (∀ wx, Below w13.heap.size w13 wx → Calls Try.prog 30 #[.int .u64 kk, .slice Au nu cu] wx fun e w' => ∃ v, e = .returned v ∧ Below wx.heap.size wx w' ∧ SOpn (R1, E) w' v) := Lib.hid (fun wx hb => by
         have h := ropen_any kk _ T wx hkr (HBU.out.below hb) HTL.out
         rw [hRE] at h
         exact h.mono fun e w' ⟨v, h1, h2, h3⟩ => ⟨_, h1, h3, v, rfl, h2⟩)
        have hk4 : (k : Int) < 2 := by omega
        have hk5 : (0 : Int) ≤ (k : Int) := by omega
        have hkd := decide_eq_true hk4
        clear hkk hRE hkr
        go_upto_region 21 with fail
        generalize hW_21 : wo.drew = W_21
        refine gen_act ?_
        intro F_ hF_
        have ev21 : F_.eval (.tmp 21) = .slice (some ⟨gt, 0, none⟩) 6 6 := by rw [← hF_]; rfl
        have ev22 : F_.eval (.tmp 22) = .slice (some ⟨gt + 1, 0, none⟩) 2 2 := by rw [← hF_]; rfl
        have ev23 : F_.eval (.tmp 23) = .int .i64 (i : Int) := by rw [← hF_]; rfl
        have ev24 : F_.eval (.tmp 24) = .int .i64 (k : Int) := by rw [← hF_]; rfl
        have hsz_ : ∀ d ∈ ([(145, []), (146, []), (147, [0, 1]), (148, [2]), (149, []), (150, []), (151, [4, 5]), (152, [6]), (153, [3, 7]), (144, [8]), (154, [9]), (155, [9]), (25, [10])] : List (Nat × List Nat)).map (·.1), d < F_.tmps.size := by rw [← hF_]; simp
        have HF_ := Lib.hid hF_; clear hF_
        refine wp_flow_tab true hW_21 13 [(145, []), (146, []), (147, [0, 1]), (148, [2]), (149, []), (150, []), (151, [4, 5]), (152, [6]), (153, [3, 7]), (144, [8]), (154, [9]), (155, [9]), (25, [10])] [SC (.slice (some ⟨gt + 1, 0, none⟩) 2 2), SC (.int .i64 (k : Int)), SC (.pointer (some ⟨gt + 1, k, none⟩)), SC (.int .u64 kk), SC (.slice (some ⟨gt, 0, none⟩) 6 6), SC (.int .i64 (i : Int)), SC (.pointer (some ⟨gt, i, none⟩)), SC (.slice Au nu cu), SOpn (R1, E), SOpn (R1, E), SY R1, SC (.int .i64 E), SY R1] [false, false, false, false, false, false, false, false, false, false, false, false, false] (by kernel_rfl) (by kernel_rfl) (by kernel_rfl) (by kernel_rfl) (by kernel_rfl) hsz_ ⟨SC.mono _, SC.mono _, SC.mono _, SC.mono _, SC.mono _, SC.mono _, SC.mono _, SC.mono _, SOpn.mono _, SOpn.mono _, SY.mono _, SC.mono _, SY.mono _, trivial⟩ ?_ ?_
        ·intro kq hkq a wx hB hp hs
         have hBo : Below wo.heap.size wo wx := dB hW_21 hB
         have hcase : kq = 0 ∨ kq = 1 ∨ kq = 2 ∨ kq = 3 ∨ kq = 4 ∨ kq = 5 ∨ kq = 6 ∨ kq = 7 ∨ kq = 8 ∨ kq = 9 ∨ kq = 10 ∨ kq = 11 ∨ kq = 12 := by omega
         rcases hcase with rfl | rfl | rfl | rfl | rfl | rfl | rfl | rfl | rfl | rfl | rfl | rfl | rfl
         ·clear hp
          exact ⟨_, rfl, op_mv (s := SC _) rfl ((hs 22 rfl).trans ev22)⟩
         ·clear hp
          exact ⟨_, rfl, op_mv (s := SC _) rfl ((hs 24 rfl).trans ev24)⟩
         ·obtain ⟨k0, k1, -⟩ := hp
          have e0 : a.eval (.tmp 145) = .slice (some ⟨gt + 1, 0, none⟩) 2 2 := k0
          simp [Act.eval] at e0
          have e1 : a.eval (.tmp 146) = .int .i64 (k : Int) := k1
          simp [Act.eval] at e1
          exact ⟨_, rfl, Does.val (by simp [execOp, Act.eval, e0, e1, go_sem, hk4, hk5]) rfl⟩
         ·obtain ⟨k0, -⟩ := hp
          have e0 : a.eval (.tmp 147) = .pointer (some ⟨gt + 1, k, none⟩) := k0
          simp [Act.eval] at e0
          exact ⟨_, rfl, Does.val (by simp [execOp, Act.eval, e0, go_sem, HKC.out wx (Blw HBR.out hBo)]) rfl⟩
         ·clear hp
          exact ⟨_, rfl, op_mv (s := SC _) rfl ((hs 21 rfl).trans ev21)⟩
         ·clear hp
          exact ⟨_, rfl, op_mv (s := SC _) rfl ((hs 23 rfl).trans ev23)⟩
         ·obtain ⟨k0, k1, -⟩ := hp
          have e0 : a.eval (.tmp 149) = .slice (some ⟨gt, 0, none⟩) 6 6 := k0
          simp [Act.eval] at e0
          have e1 : a.eval (.tmp 150) = .int .i64 (i : Int) := k1
          simp [Act.eval] at e1
          exact ⟨_, rfl, Does.val (by simp [execOp, Act.eval, e0, e1, go_sem, hi4, hi5]) rfl⟩
         ·obtain ⟨k0, -⟩ := hp
          have e0 : a.eval (.tmp 151) = .pointer (some ⟨gt, i, none⟩) := k0
          simp [Act.eval] at e0
          exact ⟨_, rfl, Does.val (by simp [execOp, Act.eval, e0, go_sem, HTC.out wx (Blw HBR.out hBo)]) rfl⟩
         ·obtain ⟨k0, k1, -⟩ := hp
          exact ⟨_, rfl, Does.ru (f := 25) (call2 rfl (fun _ => by simp [go_sem]) k0 k1) (HOP.out wx (Blw HBR.out hBo))⟩
         ·obtain ⟨k0, -⟩ := hp
          exact ⟨_, rfl, op_mv rfl k0⟩
         ·obtain ⟨k0, -⟩ := hp
          exact ⟨_, rfl, op_ex0 (r := (R1, E)) rfl k0⟩
         ·obtain ⟨k0, -⟩ := hp
          exact ⟨_, rfl, op_ex1 (r := (R1, E)) rfl k0⟩
         ·obtain ⟨k0, -⟩ := hp
          exact ⟨_, rfl, op_as rfl k0⟩
        ·intro val wx hB hsp hdis
         have hBo : Below wo.heap.size wo wx := dB hW_21 hB
         have e11 : val 11 = .int .i64 E := hsp 11 (by omega)
         have h12 : (SY R1) wx (val 12) := hsp 12 (by omega)
         generalize e12 : val 12 = u12 at h12
         rw [← HF_.out]
         change wpList _ _ _ [_] _ _
         simp only [puts_consT, puts_nilm, vals, List.map_cons, List.map_nil, Nat.zero_add, Nat.reduceAdd, e11, e12, List.setIfInBounds_toArray, List.set_cons_succ, List.set_cons_zero]
         clear hsp hdis HF_ hsz_ hB hW_21 e11 e12 ev21 ev22 ev23 ev24
         obtain ⟨y1, rfl⟩ : ∃ y, y = u12 := ⟨_, rfl⟩
         have HY1 := Lib.hid (show BV wx y1 R1 from h12)
         obtain ⟨w14, rfl⟩ : ∃ w14 : World, w14 = wx := ⟨_, rfl⟩
         have HBS := Lib.hid (Blw HBR.out hBo)
         clear h12 hBo HBR
         obtain ⟨wo, rfl⟩ : ∃ wo : World, wo = w14 := ⟨_, rfl⟩
         have HBR := HBS
         go_upto_region 22 with fail
         generalize hW_22 : wo.drew = W_22
         refine gen_act ?_
         intro F_ hF_
         have ev21 : F_.eval (.tmp 21) = .slice (some ⟨gt, 0, none⟩) 6 6 := by rw [← hF_]; rfl
         have ev22 : F_.eval (.tmp 22) = .slice (some ⟨gt + 1, 0, none⟩) 2 2 := by rw [← hF_]; rfl
         have ev23 : F_.eval (.tmp 23) = .int .i64 (i : Int) := by rw [← hF_]; rfl
         have ev24 : F_.eval (.tmp 24) = .int .i64 (k : Int) := by rw [← hF_]; rfl
         have hsz_ : ∀ d ∈ ([(157, []), (158, []), (159, [0, 1]), (160, [2]), (161, []), (162, []), (163, [4, 5]), (164, [6]), (165, [3, 7]), (156, [8]), (166, [9]), (167, [9]), (27, [10])] : List (Nat × List Nat)).map (·.1), d < F_.tmps.size := by rw [← hF_]; simp
         have HF_ := Lib.hid hF_; clear hF_
         refine wp_flow_tab true hW_22 13 [(157, []), (158, []), (159, [0, 1]), (160, [2]), (161, []), (162, []), (163, [4, 5]), (164, [6]), (165, [3, 7]), (156, [8]), (166, [9]), (167, [9]), (27, [10])] [SC (.slice (some ⟨gt + 1, 0, none⟩) 2 2), SC (.int .i64 (k : Int)), SC (.pointer (some ⟨gt + 1, k, none⟩)), SC (.int .u64 kk), SC (.slice (some ⟨gt, 0, none⟩) 6 6), SC (.int .i64 (i : Int)), SC (.pointer (some ⟨gt, i, none⟩)), SC (.slice Au nu cu), SOpn (R1, E), SOpn (R1, E), SY R1, SC (.int .i64 E), SY R1] [false, false, false, false, false, false, false, false, false, false, false, false, false] (by kernel_rfl) (by kernel_rfl) (by kernel_rfl) (by kernel_rfl) (by kernel_rfl) hsz_ ⟨SC.mono _, SC.mono _, SC.mono _, SC.mono _, SC.mono _, SC.mono _, SC.mono _, SC.mono _, SOpn.mono _, SOpn.mono _, SY.mono _, SC.mono _, SY.mono _, trivial⟩ ?_ ?_
         ·intro kq hkq a wx hB hp hs
          have hBo : Below wo.heap.size wo wx := dB hW_22 hB
          have hcase : kq = 0 ∨ kq = 1 ∨ kq = 2 ∨ kq = 3 ∨ kq = 4 ∨ kq = 5 ∨ kq = 6 ∨ kq = 7 ∨ kq = 8 ∨ kq = 9 ∨ kq = 10 ∨ kq = 11 ∨ kq = 12 := by omega
          rcases hcase with rfl | rfl | rfl | rfl | rfl | rfl | rfl | rfl | rfl | rfl | rfl | rfl | rfl
          ·clear hp
           exact ⟨_, rfl, op_mv (s := SC _) rfl ((hs 22 rfl).trans ev22)⟩
          ·clear hp
           exact ⟨_, rfl, op_mv (s := SC _) rfl ((hs 24 rfl).trans ev24)⟩
          ·obtain ⟨k0, k1, -⟩ := hp
           have e0 : a.eval (.tmp 157) = .slice (some ⟨gt + 1, 0, none⟩) 2 2 := k0
           simp [Act.eval] at e0
           have e1 : a.eval (.tmp 158) = .int .i64 (k : Int) := k1
           simp [Act.eval] at e1
           exact ⟨_, rfl, Does.val (by simp [execOp, Act.eval, e0, e1, go_sem, hk4, hk5]) rfl⟩
          ·obtain ⟨k0, -⟩ := hp
           have e0 : a.eval (.tmp 159) = .pointer (some ⟨gt + 1, k, none⟩) := k0
           simp [Act.eval] at e0
           exact ⟨_, rfl, Does.val (by simp [execOp, Act.eval, e0, go_sem, HKC.out wx (Blw HBR.out hBo)]) rfl⟩
          ·clear hp
           exact ⟨_, rfl, op_mv (s := SC _) rfl ((hs 21 rfl).trans ev21)⟩
          ·clear hp
           exact ⟨_, rfl, op_mv (s := SC _) rfl ((hs 23 rfl).trans ev23)⟩
          ·obtain ⟨k0, k1, -⟩ := hp
           have e0 : a.eval (.tmp 161) = .slice (some ⟨gt, 0, none⟩) 6 6 := k0
           simp [Act.eval] at e0
           have e1 : a.eval (.tmp 162) = .int .i64 (i : Int) := k1
           simp [Act.eval] at e1
           exact ⟨_, rfl, Does.val (by simp [execOp, Act.eval, e0, e1, go_sem, hi4, hi5]) rfl⟩
          ·obtain ⟨k0, -⟩ := hp
           have e0 : a.eval (.tmp 163) = .pointer (some ⟨gt, i, none⟩) := k0
           simp [Act.eval] at e0
           exact ⟨_, rfl, Does.val (by simp [execOp, Act.eval, e0, go_sem, HTC.out wx (Blw HBR.out hBo)]) rfl⟩
          ·obtain ⟨k0, k1, -⟩ := hp
           exact ⟨_, rfl, Does.ru (f := 30) (call2 rfl (fun _ => by simp [go_sem]) k0 k1) (HRO.out wx (Blw HBR.out hBo))⟩
          ·obtain ⟨k0, -⟩ := hp
           exact ⟨_, rfl, op_mv rfl k0⟩
          ·obtain ⟨k0, -⟩ := hp
           exact ⟨_, rfl, op_ex0 (r := (R1, E)) rfl k0⟩
          ·obtain ⟨k0, -⟩ := hp
           exact ⟨_, rfl, op_ex1 (r := (R1, E)) rfl k0⟩
          ·obtain ⟨k0, -⟩ := hp
           exact ⟨_, rfl, op_as rfl k0⟩
         ·intro val wx hB hsp hdis
          have hBo : Below wo.heap.size wo wx := dB hW_22 hB
          have e11 : val 11 = .int .i64 E := hsp 11 (by omega)
          have h12 : (SY R1) wx (val 12) := hsp 12 (by omega)
          generalize e12 : val 12 = u12 at h12
          rw [← HF_.out]
          change wpList _ _ _ [_] _ _
          simp only [puts_consT, puts_nilm, vals, List.map_cons, List.map_nil, Nat.zero_add, Nat.reduceAdd, e11, e12, List.setIfInBounds_toArray, List.set_cons_succ, List.set_cons_zero]
          clear hsp hdis HF_ hsz_ hB hW_22 e11 e12 ev21 ev22 ev23 ev24
          obtain ⟨y2, rfl⟩ : ∃ y, y = u12 := ⟨_, rfl⟩
          have hsm := same_bv (HY1.out.below hBo) (show BV wx y2 R1 from h12)
          rw [decide_eq_true rfl] at hsm
          have HSM := Lib.hid hsm
          have HBT := Lib.hid (Blw HBR.out hBo)
          clear h12 hsm hBo HBR HBS HY1 HOP HRO
          go_wp2_with fail
          refine HSM.out.mono ?_
          rintro e w15 ⟨rfl, n, rfl⟩
          go_wp2
          exact ⟨⟨k + 1, by omega, by go_num, Lib.hid (bdN HBT.out n)⟩, by simp [intOf]; omega⟩
       ·have hkd := decide_eq_false (show ¬ (k : Int) < 2 by omega)
        go_wp2
        exact ⟨⟨i + 1, by omega, by go_num, HBR⟩, by simp [intOf]; omega⟩
     ·have hkd := decide_eq_false (show ¬ (i : Int) < 6 by omega)
      go_wp2_with fail
      refine (lives_any _).mono ?_
      rintro e w16 ⟨rfl, hb⟩
      go_wp2
      go_ret
      exact ⟨rfl, Blw (Blw kt.out HBQ.out) hb⟩
end Go.Proofs.Ytgdibcgphjmofaa
