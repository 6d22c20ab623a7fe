/-
 THE WALK of LinkDetects.
-/
import Derived.Test.YtgdibcgphjmofaaLnkZ
import Derived.Test.YtgdibcgphjmofaaLnkE1
import Derived.Test.YtgdibcgphjmofaaFlowU
namespace Go.Proofs.Ytgdibcgphjmofaa
open Go.RowKit
set_option linter.unusedVariables false
namespace K
def F : Nat := 1099511628211
theorem st_nat (h c : Nat) (hh : h < 18446744073709551616) (hc : c < 256) (u : UInt8) (hu : u.toNat = c) : st (h : Int) u = (((h ^^^ c) * F % 18446744073709551616 : Nat) : Int) := by
 unfold st
 have e1 : IntKind.u64.wrap (u.toNat : Int) = ((c : Nat) : Int) := by rw [hu, IntKind.wrap_u64]; omega
 rw [e1, bits_xor_u64_nat h c (by omega) (by omega), IntKind.wrap_u64]
 unfold F
 omega
theorem mulF_inj {a b : Nat} (ha : a < 18446744073709551616) (hb : b < 18446744073709551616) (h : a * F % 18446744073709551616 = b * F % 18446744073709551616) : a = b := by
 -- the inverse of the factor
 have hF : F * 14886173955864302971 % 18446744073709551616 = 1 := by decide
 have h1 : a * F * 14886173955864302971 % 18446744073709551616 = b * F * 14886173955864302971 % 18446744073709551616 := by
  rw [Nat.mul_mod, h, ← Nat.mul_mod]
 rw [Nat.mul_assoc, Nat.mul_assoc, Nat.mul_mod, hF, Nat.mul_mod b, hF] at h1
 simp at h1
 omega
theorem xor_back (a b : Nat) : (a ^^^ b) ^^^ b = a := by rw [Nat.xor_assoc, Nat.xor_self, Nat.xor_zero]
theorem xor_bd {h c : Nat} (hh : h < 18446744073709551616) (hc : c < 256) : h ^^^ c < 18446744073709551616 := Nat.xor_lt_two_pow (n := 64) (by omega) (by omega)
theorem st_injh {h h' : Int} {u : UInt8} (a : 0 ≤ h ∧ h < 18446744073709551616) (b : 0 ≤ h' ∧ h' < 18446744073709551616) (e : st h u = st h' u) : h = h' := by
 obtain ⟨n, rfl⟩ := Int.eq_ofNat_of_zero_le a.1
 obtain ⟨m, rfl⟩ := Int.eq_ofNat_of_zero_le b.1
 have hu := u.toNat_lt
 rw [st_nat n u.toNat (by omega) hu u rfl, st_nat m u.toNat (by omega) hu u rfl] at e
 have hn : n < 18446744073709551616 := by omega
 have hm : m < 18446744073709551616 := by omega
 have e2 : n ^^^ u.toNat = m ^^^ u.toNat := mulF_inj (xor_bd hn hu) (xor_bd hm hu) (Int.ofNat.inj e)
 have e3 := congrArg (· ^^^ u.toNat) e2
 simp only [xor_back] at e3
 omega
theorem st_injc {h : Int} {u v : UInt8} (a : 0 ≤ h ∧ h < 18446744073709551616) (e : st h u = st h v) : u = v := by
 obtain ⟨n, rfl⟩ := Int.eq_ofNat_of_zero_le a.1
 have hu := u.toNat_lt
 have hv := v.toNat_lt
 rw [st_nat n u.toNat (by omega) hu u rfl, st_nat n v.toNat (by omega) hv v rfl] at e
 have hn : n < 18446744073709551616 := by omega
 have e2 : n ^^^ u.toNat = n ^^^ v.toNat := mulF_inj (xor_bd hn hu) (xor_bd hn hv) (Int.ofNat.inj e)
 have e3 : u.toNat = v.toNat := by
  rw [Nat.xor_comm n, Nat.xor_comm n] at e2
  have e4 := congrArg (· ^^^ n) e2
  simpa only [xor_back] using e4
 exact UInt8.toNat_inj.1 e3
theorem fold_rng : ∀ (l : List UInt8) (h : Int), (0 ≤ h ∧ h < 18446744073709551616) → 0 ≤ l.foldl st h ∧ l.foldl st h < 18446744073709551616
 | [], h, a => a
 | c :: l, h, a => fold_rng l (st h c) (st_rng h c)
theorem fold_inj : ∀ (l : List UInt8) (h h' : Int), (0 ≤ h ∧ h < 18446744073709551616) → (0 ≤ h' ∧ h' < 18446744073709551616) → l.foldl st h = l.foldl st h' → h = h'
 | [], h, h', _, _, e => e
 | c :: l, h, h', a, b, e => st_injh a b (fold_inj l _ _ (st_rng h c) (st_rng h' c) e)
theorem hash_set {key : Int} (hk : 0 ≤ key ∧ key < 18446744073709551616) {l : List UInt8} {k : Nat} {c : UInt8} (hl : k < l.length) (hc : c ≠ l[k]) : hash key (l.set k c) ≠ hash key l := by
 intro e
 have e1 : l.set k c = l.take k ++ c :: l.drop (k + 1) := List.set_eq_take_append_cons_drop .. |>.trans (by rw [if_pos hl])
 have e2 : l = l.take k ++ l[k] :: l.drop (k + 1) := by rw [List.getElem_cons_drop, List.take_append_drop]
 rw [e1] at e
 conv at e => rhs; rw [e2]
 unfold hash at e
 rw [List.foldl_append, List.foldl_append, List.foldl_cons, List.foldl_cons] at e
 have e3 := fold_inj _ _ _ (st_rng _ _) (st_rng _ _) e
 exact hc (st_injc (fold_rng _ _ (beg_rng hk)) e3)
theorem sealB_eq {H H' : Int} {i : Nat} (e : sealB H i = sealB H' i) : H / (256 ^ i : Nat) % 256 = H' / (256 ^ i : Nat) % 256 := by
 have h1 := sealB_cell H i
 have h2 := sealB_cell H' i
 rw [e, h2] at h1
 injection h1 with _ h1
 exact h1.symm
theorem seal8_inj {H H' : Int} (a : 0 ≤ H ∧ H < 18446744073709551616) (b : 0 ≤ H' ∧ H' < 18446744073709551616) (e : seal8 H = seal8 H') : H = H' := by
 unfold seal8 at e
 simp only [List.cons.injEq, and_true] at e
 obtain ⟨e0, e1, e2, e3, e4, e5, e6, e7⟩ := e
 have f0 := sealB_eq e0; have f1 := sealB_eq e1; have f2 := sealB_eq e2; have f3 := sealB_eq e3
 have f4 := sealB_eq e4; have f5 := sealB_eq e5; have f6 := sealB_eq e6; have f7 := sealB_eq e7
 simp only [Nat.reducePow] at f0 f1 f2 f3 f4 f5 f6 f7
 clear e0 e1 e2 e3 e4 e5 e6 e7
 have g : ∀ x : Int, 0 ≤ x → x < 18446744073709551616 → x = x % 256 + 256 * (x / 256 % 256) + 65536 * (x / 65536 % 256) + 16777216 * (x / 16777216 % 256) + 4294967296 * (x / 4294967296 % 256) + 1099511627776 * (x / 1099511627776 % 256) + 281474976710656 * (x / 281474976710656 % 256) + 72057594037927936 * (x / 72057594037927936 % 256) := by
  intro x h0 h1
  omega
 rw [g H a.1 a.2, g H' b.1 b.2]
 have h0 : H % 256 = H' % 256 := by simpa using f0
 have h1 : H / 256 % 256 = H' / 256 % 256 := f1
 have h2 : H / 65536 % 256 = H' / 65536 % 256 := f2
 have h3 : H / 16777216 % 256 = H' / 16777216 % 256 := f3
 have h4 : H / 4294967296 % 256 = H' / 4294967296 % 256 := f4
 have h5 : H / 1099511627776 % 256 = H' / 1099511627776 % 256 := f5
 have h6 : H / 281474976710656 % 256 = H' / 281474976710656 % 256 := f6
 have h7 : H / 72057594037927936 % 256 = H' / 72057594037927936 % 256 := f7
 rw [h0, h1, h2, h3, h4, h5, h6, h7]
/-- One byte replaced: the seal is wrong. -/
theorem detect {key : Int} (hk : 0 ≤ key ∧ key < 18446744073709551616) {l : List UInt8} {k : Nat} {c : UInt8} (hl : k < (sealed key l).length) (hc : (sealed key l)[k]? ≠ some c) : K.unseal key ((sealed key l).set k c) = ([], 9) := by
 have hlen : (sealed key l).length = l.length + 8 := by unfold sealed; rw [List.length_append, seal8_len]
 unfold K.unseal
 rw [if_neg (by rw [List.length_set]; omega), List.length_set, if_pos]
 rw [show (sealed key l).length - 8 = l.length by omega]
 by_cases h : k < l.length
 ·have e1 : (sealed key l).set k c = l.set k c ++ seal8 (hash key l) := by unfold sealed; rw [List.set_append_left _ _ h]
  have e2 : l.length = (l.set k c).length := by simp
  have hck : c ≠ l[k] := by
   intro e
   apply hc
   unfold sealed
   rw [List.getElem?_append_left h, List.getElem?_eq_getElem h, e]
  rw [e1, e2, List.take_left, List.drop_left]
  intro e
  exact hash_set hk h hck (seal8_inj (hash_rng hk _) (hash_rng hk _) e)
 ·have e1 : (sealed key l).set k c = l ++ (seal8 (hash key l)).set (k - l.length) c := by unfold sealed; rw [List.set_append_right _ _ (by omega)]
  rw [e1, List.take_left, List.drop_left]
  intro e
  apply hc
  have hk8 : k - l.length < (seal8 (hash key l)).length := by rw [seal8_len]; omega
  have e2 := congrArg (fun r => r[k - l.length]?) e
  simp only [List.getElem?_set_self hk8] at e2
  unfold sealed
  rw [List.getElem?_append_right (by omega), e2]
end K
end Go.Proofs.Ytgdibcgphjmofaa
namespace Go.Proofs.Ytgdibcgphjmofaa
set_option maxHeartbeats 2000000
open Go.RowKit
open Go.Maps
set_option linter.unusedVariables false
theorem bits_xor_u8_nat (a b : Nat) (ha : a < 256) (hb : b < 256) : bits .xor .u8 (a : Int) (b : Int) = ((a ^^^ b : Nat) : Int) := by
 have hx : a ^^^ b < 2 ^ 8 := Nat.xor_lt_two_pow (by omega) (by omega)
 have h1 : (BitVec.ofInt 8 (a : Int)).toNat = a := by
  rw [BitVec.ofInt_natCast, BitVec.toNat_ofNat]; exact Nat.mod_eq_of_lt (by omega)
 have h2 : (BitVec.ofInt 8 (b : Int)).toNat = b := by
  rw [BitVec.ofInt_natCast, BitVec.toNat_ofNat]; exact Nat.mod_eq_of_lt (by omega)
 show IntKind.u8.wrap ((BitVec.ofInt 8 (a : Int) ^^^ BitVec.ofInt 8 (b : Int)).toNat : Int) = _
 rw [BitVec.toNat_xor, h1, h2, IntKind.wrap_u8]
 omega
theorem xor_byte (x : UInt8) {m : Int} (h1 : 1 ≤ m) (h2 : m ≤ 255) : ∃ c : UInt8, bits .xor .u8 (x.toNat : Int) m = (c.toNat : Int) ∧ c ≠ x := by
 obtain ⟨n, rfl⟩ := Int.eq_ofNat_of_zero_le (show 0 ≤ m by omega)
 have hx := x.toNat_lt
 refine ⟨x ^^^ UInt8.ofNat n, ?_, fun e => ?_⟩
 ·rw [bits_xor_u8_nat x.toNat n hx (by omega), UInt8.toNat_xor, UInt8.toNat_ofNat', Nat.mod_eq_of_lt (by omega)]
 ·have e1 := congrArg UInt8.toNat e
  rw [UInt8.toNat_xor, UInt8.toNat_ofNat', Nat.mod_eq_of_lt (by omega)] at e1
  have e2 := congrArg (x.toNat ^^^ ·) e1
  simp only [← Nat.xor_assoc, Nat.xor_self, Nat.zero_xor] at e2
  omega
theorem bc_some {l : List UInt8} {k : Nat} {x : UInt8} (h : l[k]? = some x) : (W.bc l)[k]? = some (.int .u8 (x.toNat : Int)) := by simp [W.bc, W.bcell, h]
theorem bc_set (l : List UInt8) (k : Nat) (c : UInt8) : (W.bc l).set k (.int .u8 (c.toNat : Int)) = W.bc (l.set k c) := by simp [W.bc, W.bcell, List.map_set]
theorem own_frozen {w : World} {base e n g c : Nat} {xs : List Value} (h : w.ownsRow base e 1 (.slice (some ⟨g, 0, none⟩) n c) n xs) (i : Nat) : w.frozen? ⟨g, i, none⟩ = false := by
 rcases h.2 with ⟨h, _⟩ | ⟨g', cap, cur, hv, hb, hg, _⟩
 ·cases h
 ·injection hv with hv1 hv2 hv3
  injection hv1 with hv1
  injection hv1 with hv1
  subst hv1
  simp [World.frozen?, hg]
theorem K.ar_nat (n : Int) (m : Nat) (h : 0 < m) : ∃ k : Nat, K.ar n m = (k : Int) ∧ k < m := by
 unfold K.ar
 have h1 := Int.emod_nonneg (if n < 0 then -(n + 1) else n) (show (m : Int) ≠ 0 by omega)
 have h2 := Int.emod_lt_of_pos (if n < 0 then -(n + 1) else n) (show (0 : Int) < m by omega)
 exact ⟨_, (Int.toNat_of_nonneg h1).symm, by omega⟩
theorem Does.rv {P : Program} {o : Oper} {a : Act} {wx : World} {f : FuncId} {args : Array Value} {v : Value} (hr : (execOp a.eval o).run P wx = .ok (.enter f args) wx) (hc : Calls P f args wx fun e w' => e = .returned v ∧ wx = w') : Does P o (SC v) false a wx :=
 .inr ⟨rfl, f, args, hr, hc.mono fun _ _ ⟨h1, h2⟩ => by subst h2; exact ⟨v, h1, Below.refl _ _, rfl⟩⟩
/-- The end behind a packet whose seal is wrong, and behind the right one. -/
theorem K.inn_bent {S : K.E} {l : List UInt8} (h : K.unseal S.key l = ([], 9)) : K.inn S l = ([], 9, { S with forged := S.forged + 1 }) := by
 unfold K.inn
 rw [h]
 rfl
def De.s1 (key : Int) : K.E := { K.E0 3 key with forged := 1 }
theorem De.ok0 (key : Int) (hk : 0 ≤ key ∧ key < 18446744073709551616) : K.ok (K.E0 3 key) := ⟨by simp [K.E0], by simp [K.E0], by simp [K.E0], by simp [K.E0], by simp [K.E0], by simp [K.E0], by simp [K.E0], by simp [K.E0], by simp [K.E0], by simp [K.E0], by simp [K.E0], hk⟩
theorem De.ok1 (key : Int) (hk : 0 ≤ key ∧ key < 18446744073709551616) : K.ok (De.s1 key) := ⟨by simp [De.s1, K.E0], by simp [De.s1, K.E0], by simp [De.s1, K.E0], by simp [De.s1, K.E0], by simp [De.s1, K.E0], by simp [De.s1, K.E0], by simp [De.s1, K.E0], by simp [De.s1, K.E0], by simp [De.s1, K.E0], by simp [De.s1, K.E0], by simp [De.s1, K.E0], hk⟩
theorem De.out (key : Int) : K.out (De.s1 key) = [] := rfl
theorem De.inn (key : Int) {L : List UInt8} (hL : L.length ≤ 65536) : ∃ S, K.inn (De.s1 key) (K.sealed key (K.pk 1 0 L)) = ([L], 0, S) ∧ S.forged = 1 := by
 have h := K.inn_sealed (S := De.s1 key) (p := 1) (q := 0) (s := L) (i64 (by omega) (by omega)) (i64 (by omega) (by omega)) ⟨by omega, by omega, hL, by omega⟩
 exact ⟨_, (show K.inn (De.s1 key) (K.sealed key (K.pk 1 0 L)) = _ from h).trans rfl, rfl⟩
set_option maxRecDepth 100000 in
theorem law_detects (key : Int) (A : Option Addr) (len cap : Nat) (l : List UInt8) (at_ by_ : Int) (w : World) (hk : 0 ≤ key ∧ key < 18446744073709551616) (hb : IsB w A len cap l) (hat : W.Is64 at_) (hby : 0 ≤ by_ ∧ by_ < 256) :
  Calls Try.prog 7 #[.int .u64 key, .slice A len cap, .int .i64 at_, .int .u8 by_] w fun e w' => e = .returned (.bool true) ∧ Below w.heap.size w w' := by
 obtain ⟨hr, rfl, hc, hm⟩ := hb
 have HR := Lib.hid hr; have HK := Lib.hid hk; have HC := Lib.hid (And.intro hc hm)
 have hf := few_any A cap _ 200 l w hr hc hm (by omega)
 clear hr hk
 obtain ⟨L1, hL1⟩ : ∃ L1, L1 = l.take 200 := ⟨_, rfl⟩
 have hl1 : L1.length ≤ 200 := by rw [hL1, List.length_take]; omega
 rw [← hL1] at hf
 clear hL1
 go_enter Try.func7, Try.ntmps7
 go_wp2_with fail
 refine hf.mono ?_
 clear hf
 rintro e w1 ⟨v1, rfl, hown1, kf⟩
 obtain ⟨A1, c1, rfl, kg, hm1, -⟩ := own_form hown1
 have hs := lseal_any key A1 c1 _ L1 w1 (Rd.of_own hown1) (Nat.le_refl _) kg hm1 (by omega)
 have HS := Lib.hid hs
 have k7 := Lib.hid kf
 clear hown1 kf hs
 generalize hn1 : L1.length = n1 at *
 go_wp2_with fail
 refine HS.out.mono ?_
 rintro e w2 ⟨v2, rfl, hown2, kh⟩
 replace hown2 : w2.ownsRow w1.heap.size 5 1 v2 (K.sealed key L1).length (W.bc (K.sealed key L1)) := hown2
 have hlen : (K.sealed key L1).length = n1 + 8 := by unfold K.sealed; rw [List.length_append, K.seal8_len, hn1]
 have hp2 := own_pos hown2 (by omega)
 obtain ⟨g2, c2, rfl, ku, hm2, hg2, hgs2⟩ := hp2
 have HO2 := Lib.hid hown2
 have ki := Lib.hid (Blw k7.out kh)
 have HN := Lib.hid hlen
 have HB1s := Lib.hid (show w.heap.size ≤ g2 by have := k7.out.size; omega)
 obtain ⟨n2, hn2⟩ : ∃ n2, n2 = (K.sealed key L1).length := ⟨_, rfl⟩
 rw [← hn2] at ku ⊢
 have hn28 : n2 = n1 + 8 := by omega
 have hn2b : n2 ≤ 208 := by omega
 have hd := decide_eq_false (show ¬ (n2 : Int) < 8 by omega)
 obtain ⟨k, hk, hk2⟩ := K.ar_nat at_ n2 (by omega)
 have ha := ar_any at_ n2 w2 hat (by omega) (by omega)
 rw [hk] at ha
 obtain ⟨x, hx⟩ : ∃ x, (K.sealed key L1)[k]? = some x := ⟨_, List.getElem?_eq_getElem (by omega)⟩
 have hcell := own_cells hown2 k _ (bc_some hx)
 rw [Addr.add_lit, Nat.zero_add] at hcell
 have HN2 := Lib.hid hn2; have HX := Lib.hid hx; have HHK := Lib.hid hk2
 clear hown2 kh hlen k7 HS hn28 hn2 hx
 go_wp2_with fail
 refine ha.mono ?_
 rintro e w3 ⟨rfl, rfl⟩
 clear ha kg hm1 hd hk
 have hfz := own_frozen HO2.out k
 have hk4 : (k : Int) < (n2 : Int) := by omega
 have hkd := decide_eq_true hk4
 go_upto_region 6 with fail
 obtain ⟨c, hcv, hcx⟩ := xor_byte x (m := 1 + by_ % 255) (by omega) (by omega)
 rw [hcv]
 have hown3 := own_put HO2.out k (.int .u8 (c.toNat : Int))
 rw [bc_set] at hown3
 have kj : Below w.heap.size w (w2.setCell ⟨g2, k, none⟩ (.int .u8 (c.toNat : Int))) := ki.out.setCell (by have := HB1s.out; omega) _
 generalize hW3 : w2.setCell ⟨g2, k, none⟩ (.int .u8 (c.toNat : Int)) = w3 at *
 clear hW3 hcv hcell hfz hk4 hkd
 obtain ⟨Y, hY⟩ : ∃ Y, Y = (K.sealed key L1).set k c := ⟨_, rfl⟩
 have hlY : Y.length = n2 := by rw [hY, List.length_set, HN2.out]
 have hdet := K.detect HK.out (l := L1) (k := k) (c := c) (by have := HHK.out; have := HN2.out; omega) (by rw [HX.out]; intro e; injection e with e; exact hcx e.symm)
 rw [← hY] at hdet hown3
 have hop := open_any key (some ⟨g2, 0, none⟩) c2 _ Y w3 (Rd.of_own (n := n2) (c := c2) (by rw [HN2.out]; exact hown3)) (Nat.le_refl _) (by omega) hm2 (by omega)
 rw [hdet, hlY] at hop
 have kk := Lib.hid kj; have HOP := Lib.hid hop
 clear hown3 hdet hop hlY hY HO2 HX HHK ki kj
 go_wp2_with fail
 refine HOP.out.mono ?_
 rintro e w4 ⟨v4, rfl, hown4, kl⟩
 obtain ⟨A4, c4, rfl, -⟩ := own_form hown4
 have k8 := Lib.hid (Blw kk.out kl)
 simp only [List.length_nil]
 clear hown4 kl kk HOP
 go_wp2_with fail
 refine (new_yes 3 key w4 (by omega) (by omega)).mono ?_
 rintro e w5 ⟨b, own, rfl, hE5, km, ho5⟩
 have k9 := Lib.hid (Blw k8.out km)
 have HO5 : Hid (∀ x ∈ own, w.heap.size ≤ x) := Lib.hid (fun x hx => by have := ho5 x hx; have := k8.out.size; omega)
 have HE5 := Lib.hid hE5
 have hf5 := few_any A cap _ 20 l w5 (HR.out.below k9.out (Nat.le_refl _)) HC.out.1 HC.out.2 (by omega)
 obtain ⟨L2, hL2⟩ : ∃ L2, L2 = l.take 20 := ⟨_, rfl⟩
 have hl2 : L2.length ≤ 20 := by rw [hL2, List.length_take]; omega
 rw [← hL2] at hf5
 have HF5 := Lib.hid hf5; have HL2 := Lib.hid hL2
 clear hE5 km ho5 k8 hf5 hL2
 go_wp2_with fail
 refine HF5.out.mono ?_
 rintro e w6 ⟨v6, rfl, hown6, ka⟩
 obtain ⟨A6, c6, rfl, -⟩ := own_form hown6
 have kn := Lib.hid (Blw k9.out ka)
 have HE6 := Lib.hid (HE5.out.below ka)
 have HPK := Lib.hid (rpk_any 1 0 A6 c6 _ L2 w6 (Rd.of_own hown6) (Nat.le_refl _) (i64 (by omega) (by omega)) (i64 (by omega) (by omega)) (by omega))
 obtain ⟨m2, hm2'⟩ : ∃ m, m = L2.length := ⟨_, rfl⟩
 rw [← hm2'] at HPK ⊢
 have HM2 := Lib.hid hm2'
 have hlp := K.pk_len 1 0 L2 (by omega)
 clear hown6 ka HF5 HE5 k9 hm2' hl2
 go_wp2_with fail
 refine HPK.out.mono ?_
 rintro e w7 ⟨v7, rfl, hown7, kc⟩
 obtain ⟨A7, c7, rfl, ko, hm7, -⟩ := own_form hown7
 have kp := Lib.hid (Blw kn.out kc)
 have HE7 := Lib.hid (HE6.out.below kc)
 have hrs := rseal_rd key A7 c7 _ (K.pk 1 0 L2) w7 HK.out (Rd.of_own hown7) (Nat.le_refl _) ko hm7 (by omega)
 have HRS : Hid (Calls Try.prog 17 #[.int .u64 key, .slice A7 (K.pk 1 0 L2).length c7] w7 (RB_ (K.sealed key (K.pk 1 0 L2)) w7)) := Lib.hid hrs
 clear hown7 kc hrs ko hm7 HPK HE6 kn
 generalize hnp : (K.pk 1 0 L2).length = np at *
 go_wp2_with fail
 refine HRS.out.mono ?_
 rintro e w8 ⟨v8, rfl, hown8, kd⟩
 have hlen8 : (K.sealed key (K.pk 1 0 L2)).length = np + 8 := by unfold K.sealed; rw [List.length_append, K.seal8_len, hnp]
 obtain ⟨Z, hZ⟩ : ∃ Z, Z = K.sealed key (K.pk 1 0 L2) := ⟨_, rfl⟩
 rw [← hZ] at hown8 hlen8
 obtain ⟨g8, c8, rfl, kr, hm8, hg8, hgs8⟩ := own_pos hown8 (by omega)
 have ke := Lib.hid (Blw kp.out kd)
 have HE8 := Lib.hid (HE7.out.below kd)
 have hr8 := Rd.of_own hown8
 have HO8 := Lib.hid hown8
 have hf8 := few_any (some ⟨g8, 0, none⟩) c8 _ Z.length Z w8 hr8 kr hm8 (by omega)
 rw [List.take_length] at hf8
 have HF8 := Lib.hid hf8; have HZ := Lib.hid hZ
 clear hown8 kd HRS HE7 kp hf8 hr8 hZ hnp
 obtain ⟨n8, hn8⟩ : ∃ n, n = Z.length := ⟨_, rfl⟩
 rw [← hn8] at HF8 hlen8 kr ⊢
 have HN8 := Lib.hid hn8
 have hn8a : 8 ≤ n8 := by omega
 have hn8b : n8 ≤ 900000000008 := by omega
 clear hn8 hlen8
 go_wp2_with fail
 refine HF8.out.mono ?_
 rintro e w9 ⟨v9, rfl, hown9, k2⟩
 obtain ⟨g9, c9, rfl, kv, hm9, hg9, hgs9⟩ := own_pos hown9 (by have := HN8.out; omega)
 have ks := Lib.hid (Blw ke.out k2)
 have HE9 := Lib.hid (HE8.out.below k2)
 have HG9 : Hid (g9 ∉ own ∧ w.heap.size ≤ g9 ∧ g8 ≠ g9) := Lib.hid ⟨fun e => by have := HE8.out.lt g9 e; omega, by have := ke.out.size; omega, fun e => by omega⟩
 have HO8b := Lib.hid (own_below HO8.out k2)
 have HO9 := Lib.hid hown9
 rw [← HN8.out] at kv ⊢
 obtain ⟨j, hj, hj2⟩ := K.ar_nat at_ n8 (by omega)
 have ha := ar_any at_ n8 w9 hat (by omega) (by have := HN8.out; omega)
 rw [hj] at ha
 obtain ⟨y, hy⟩ : ∃ y, Z[j]? = some y := ⟨_, List.getElem?_eq_getElem (by have := HN8.out; omega)⟩
 have hcell9 := own_cells hown9 j _ (bc_some hy)
 rw [Addr.add_lit, Nat.zero_add] at hcell9
 have hfz9 := own_frozen hown9 j
 have HY := Lib.hid hy
 have hj4 : (j : Int) < (n8 : Int) := by omega
 have hjd := decide_eq_true hj4
 clear hown9 k2 HF8 HE8 ke HO8 hj hy
 go_wp2_with fail
 refine ha.mono ?_
 rintro e w10 ⟨rfl, rfl⟩
 clear ha
 go_upto_region 14 with fail
 obtain ⟨d, hdv, hdy⟩ := xor_byte y (m := 1 + by_ % 255) (by omega) (by omega)
 rw [hdv]
 have hown10 := own_put HO9.out j (.int .u8 (d.toNat : Int))
 rw [bc_set] at hown10
 have kt : Below w.heap.size w (w9.setCell ⟨g9, j, none⟩ (.int .u8 (d.toNat : Int))) := ks.out.setCell HG9.out.2.1 _
 have hE10 := HE9.out.set0 HG9.out.1 (i := j) (.int .u8 (d.toNat : Int))
 have ho8 := ownsRow_setCell_other HO8b.out (a := ⟨g9, j, none⟩) (fun e => HG9.out.2.2 (by injection e)) (.int .u8 (d.toNat : Int))
 generalize hW10 : w9.setCell ⟨g9, j, none⟩ (.int .u8 (d.toNat : Int)) = w10 at *
 have hbad : BV w10 (.slice (some ⟨g9, 0, none⟩) n8 c9) (Z.set j d) := by
  have h := BV.own (l := Z.set j d) (by rw [List.length_set]; exact hown10)
  rw [HN8.out]
  exact h
 have hgood : BV w10 (.slice (some ⟨g8, 0, none⟩) n8 c8) Z := by
  have h := BV.own (l := Z) ho8
  rw [HN8.out]
  exact h
 have hdet := K.detect HK.out (l := K.pk 1 0 L2) (k := j) (c := d) (by rw [← HZ.out, ← HN8.out]; exact hj2) (by rw [← HZ.out, HY.out]; intro e; injection e with e; exact hdy e.symm)
 rw [← HZ.out] at hdet
 have hbent : K.inn (K.E0 3 key) (Z.set j d) = ([], 9, De.s1 key) := K.inn_bent hdet
 obtain ⟨S3, hin, hfg⟩ := De.inn key (L := L2) (by have := HM2.out; have := HL2.out; rw [this, List.length_take]; omega)
 rw [← HZ.out] at hin
 have HEN : Hid (Ends w.heap.size [] w10 [(b, K.E0 3 key)]) := Lib.hid ⟨own, hE10, fun x hx => ⟨HO5.out x hx, by simp⟩, fun k hk => hE10.lt k (by simpa using hk)⟩
 have hlz : Z.length ≤ 1000000000000 := by have := HN8.out; omega
 have HLZ := Lib.hid hlz
 have k3 := Lib.hid kt; have HBAD := Lib.hid hbad; have HGOOD := Lib.hid hgood; have HIN := Lib.hid hin; have HFG := Lib.hid hfg; have HBENT := Lib.hid hbent
 clear hown10 kt hE10 ho8 hW10 hbad hgood hdet hbent hin hfg hlz hdv hcell9 hfz9 hj4 hjd HO9 HE9 ks HO8b HG9 HY
 go_wp2_with fail
 refine (ends_in HEN.out k3.out.size (De.ok0 key HK.out) HBAD.out (by rw [List.length_set]; exact HLZ.out)).mono ?_
 rintro e w11 ⟨v11, rfl, hr, hT, hK⟩
 rw [HBENT.out] at hr hT ⊢
 obtain ⟨A11, c11, rfl, -⟩ := hr.form
 have HEN11 := Lib.hid (hT.sub (ks' := []) (by simp))
 have k4 := Lib.hid (k3.out.trans (hK.below k3.out.size))
 have HGOOD11 := Lib.hid (HGOOD.out.kb hK.kb)
 clear hr hT hK HEN k3 HBAD HGOOD HBENT
 simp only [List.length_nil]
 go_wp2_with fail
 refine (ends_out HEN11.out k4.out.size (De.ok1 key HK.out)).mono ?_
 rintro e w12 ⟨v12, rfl, hr, hT, hK⟩
 rw [De.out] at hr
 obtain ⟨A12, c12, rfl, -⟩ := hr.form
 have HEN12 : Hid (Ends w.heap.size [] w12 [(b, De.s1 key)]) := Lib.hid (hT.sub (ks' := []) (by simp))
 have k5 := Lib.hid (k4.out.trans (hK.below k4.out.size))
 have HGOOD12 := Lib.hid (HGOOD11.out.kb hK.kb)
 clear hr hT hK HEN11 k4 HGOOD11
 simp only [List.length_nil]
 go_wp2_with fail
 refine (ends_in HEN12.out k5.out.size (De.ok1 key HK.out) HGOOD12.out HLZ.out).mono ?_
 rintro e w13 ⟨v13, rfl, hr, hT, hK⟩
 rw [HIN.out] at hr hT ⊢
 obtain ⟨gz, cz, us, ez, hcz, hvz, hlz, -, -, hgz, hgz2⟩ := hr.rep (by simp)
 subst ez
 obtain ⟨uz, rfl⟩ : ∃ uz, us = [uz] := by
  match us, hlz with
  | [uz], _ => exact ⟨uz, rfl⟩
 have hbz := hvz.2 0 _ _ rfl rfl
 have HBZ := Lib.hid hbz
 obtain ⟨Az, czz, rfl, -⟩ := hbz
 have HCZ : Hid (∀ wx, Below w13.heap.size w13 wx → wx.cell? ⟨gz, 0, none⟩ = some (.slice Az L2.length czz)) := Lib.hid (fun wx hb => (hb.cell (p := ⟨gz, 0, none⟩) hgz2).trans (hcz 0 _ rfl))
 have k6 := Lib.hid (k5.out.trans (hK.below k5.out.size))
 have HFT : Hid (∀ wx, Below w13.heap.size w13 wx → Calls Try.prog 22 #[.pointer (some ⟨b, 0, none⟩)] wx fun e w' => e = .returned (.int .i64 1) ∧ wx = w') := Lib.hid (fun wx hb => by
  have h := ends_forg (hT.below hb)
  rw [HFG.out] at h
  exact h)
 have HFW : Hid (∀ wx, Below w13.heap.size w13 wx → Calls Try.prog 16 #[.slice A l.length cap, .int .i64 20] wx (RBV L2 wx)) := Lib.hid (fun wx hb => by
  have h := few_any A cap _ 20 l wx ((HR.out.below k6.out (Nat.le_refl _)).below hb (by have := k6.out.size; omega)) HC.out.1 HC.out.2 (by omega)
  rw [← HL2.out] at h
  exact h.mono fun _ _ h => h.bv)
 clear hr hT hK HEN12 k5 HGOOD12 hcz hvz hlz hgz hgz2 HIN HFG HK HR HC HLZ HN8 HZ HM2 HL2 HO5 hat hby
 simp only [List.length_cons, List.length_nil, Nat.reduceAdd]
 go_upto_region 17 with fail
 generalize hW_17 : w13.drew = W_17
 refine gen_act ?_
 intro F_ hF_
 have ev1 : F_.eval (.tmp 1) = .slice A l.length cap := by rw [← hF_]; rfl
 have ev13 : F_.eval (.tmp 13) = .pointer (some ⟨b, 0, none⟩) := by rw [← hF_]; rfl
 have ev18 : F_.eval (.tmp 18) = .slice A11 0 c11 := by rw [← hF_]; rfl
 have ev19 : F_.eval (.tmp 19) = .int .i64 9 := by rw [← hF_]; rfl
 have ev20 : F_.eval (.tmp 20) = .slice A12 0 c12 := by rw [← hF_]; rfl
 have ev21 : F_.eval (.tmp 21) = .slice (some ⟨gz, 0, none⟩) 1 cz := by rw [← hF_]; rfl
 have ev22 : F_.eval (.tmp 22) = .int .i64 0 := by rw [← hF_]; rfl
 have hsz_ : ∀ d ∈ ([(110, []), (111, [0]), (112, [1]), (113, [2]), (114, [3, 2]), (115, [2]), (116, [5, 2]), (117, [4, 6, 2]), (118, [7, 2]), (119, [2, 8]), (120, [9]), (121, [10]), (122, [11, 10]), (123, [12, 10]), (124, [10, 13]), (125, [14]), (126, [15]), (127, [16, 15]), (128, [15, 17]), (129, [18]), (130, [19]), (131, [20, 19]), (132, [21, 19]), (133, [19, 22]), (134, [23]), (135, [24]), (136, [25, 24]), (137, [26, 24]), (138, [24]), (139, [28, 24])] : List (Nat × List Nat)).map (·.1), d < F_.tmps.size := by rw [← hF_]; simp
 have HF_ := Lib.hid hF_; clear hF_
 refine wp_flow_tabG true hW_17 30 [(110, []), (111, [0]), (112, [1]), (113, [2]), (114, [3, 2]), (115, [2]), (116, [5, 2]), (117, [4, 6, 2]), (118, [7, 2]), (119, [2, 8]), (120, [9]), (121, [10]), (122, [11, 10]), (123, [12, 10]), (124, [10, 13]), (125, [14]), (126, [15]), (127, [16, 15]), (128, [15, 17]), (129, [18]), (130, [19]), (131, [20, 19]), (132, [21, 19]), (133, [19, 22]), (134, [23]), (135, [24]), (136, [25, 24]), (137, [26, 24]), (138, [24]), (139, [28, 24])] [SC (.int .i64 9), SC (.bool true), SC (.bool true), SC (.slice A11 0 c11), SC (.int .i64 0), SC (.slice A12 0 c12), SC (.int .i64 0), SC (.int .i64 0), SC (.bool true), SC (.bool true), SC (.bool true), SC (.pointer (some ⟨b, 0, none⟩)), SC (.int .i64 1), SC (.bool true), SC (.bool true), SC (.bool true), SC (.int .i64 0), SC (.bool true), SC (.bool true), SC (.bool true), SC (.slice (some ⟨gz, 0, none⟩) 1 cz), SC (.int .i64 1), SC (.bool true), SC (.bool true), SC (.bool true), SC (.slice (some ⟨gz, 0, none⟩) 1 cz), SC (.pointer (some ⟨gz, 0, none⟩)), SC (.slice Az L2.length czz), SC (.slice A l.length cap), SY L2] [false, false, false, false, false, false, false, false, false, false, false, false, false, false, false, false, false, false, false, false, false, false, false, false, false, false, false, false, false, false] (by kernel_rfl) (by kernel_rfl) (by kernel_rfl) (by kernel_rfl) (by kernel_rfl) hsz_ ⟨SC.mono _, SC.mono _, SC.mono _, SC.mono _, SC.mono _, SC.mono _, SC.mono _, SC.mono _, SC.mono _, SC.mono _, SC.mono _, SC.mono _, SC.mono _, SC.mono _, SC.mono _, SC.mono _, SC.mono _, SC.mono _, SC.mono _, SC.mono _, SC.mono _, SC.mono _, SC.mono _, SC.mono _, SC.mono _, SC.mono _, SC.mono _, SC.mono _, SC.mono _, SY.mono _, trivial⟩ ?_ ?_
 ·intro kq hkq a wx hB hp hs
  have hBo : Below w13.heap.size w13 wx := dB hW_17 hB
  have hcase : kq = 0 ∨ kq = 1 ∨ kq = 2 ∨ kq = 3 ∨ kq = 4 ∨ kq = 5 ∨ kq = 6 ∨ kq = 7 ∨ kq = 8 ∨ kq = 9 ∨ kq = 10 ∨ kq = 11 ∨ kq = 12 ∨ kq = 13 ∨ kq = 14 ∨ kq = 15 ∨ kq = 16 ∨ kq = 17 ∨ kq = 18 ∨ kq = 19 ∨ kq = 20 ∨ kq = 21 ∨ kq = 22 ∨ kq = 23 ∨ kq = 24 ∨ kq = 25 ∨ kq = 26 ∨ kq = 27 ∨ kq = 28 ∨ kq = 29 := by omega
  rcases hcase with rfl | rfl | rfl | rfl | rfl | rfl | rfl | rfl | rfl | rfl | rfl | rfl | rfl | rfl | rfl | rfl | rfl | rfl | rfl | rfl | rfl | rfl | rfl | rfl | rfl | rfl | rfl | rfl | rfl | rfl
  ·clear hp
   exact ⟨_, rfl, .inl ⟨wanted_none rfl, op_mv (s := SC _) rfl ((hs 19 rfl).trans ev19)⟩⟩
  ·obtain ⟨k0, -⟩ := hp
   have e0 : a.eval (.tmp 110) = .int .i64 9 := k0
   simp [Act.eval] at e0
   exact ⟨_, rfl, .inl ⟨wanted_none rfl, Does.val (by simp [execOp, Act.eval, e0, go_sem]) rfl⟩⟩
  ·obtain ⟨k0, -⟩ := hp
   exact ⟨_, rfl, .inl ⟨wanted_none rfl, op_mv (s := SC _) rfl k0⟩⟩
  ·obtain ⟨k0, -⟩ := hp
   have hgd : a.eval (.tmp 112) = .bool true := k0
   exact ⟨_, rfl, .inl ⟨(wanted_of rfl rfl hgd).trans rfl, op_mv (s := SC _) rfl ((hs 18 rfl).trans ev18)⟩⟩
  ·obtain ⟨k0, k1, -⟩ := hp
   have hgd : a.eval (.tmp 112) = .bool true := k1
   have e0 : a.eval (.tmp 113) = .slice A11 0 c11 := k0
   simp [Act.eval] at e0
   exact ⟨_, rfl, .inl ⟨(wanted_of rfl rfl hgd).trans rfl, Does.val (by simp [execOp, Act.eval, e0, go_sem]) rfl⟩⟩
  ·obtain ⟨k0, -⟩ := hp
   have hgd : a.eval (.tmp 112) = .bool true := k0
   exact ⟨_, rfl, .inl ⟨(wanted_of rfl rfl hgd).trans rfl, op_mv (s := SC _) rfl ((hs 20 rfl).trans ev20)⟩⟩
  ·obtain ⟨k0, k1, -⟩ := hp
   have hgd : a.eval (.tmp 112) = .bool true := k1
   have e0 : a.eval (.tmp 115) = .slice A12 0 c12 := k0
   simp [Act.eval] at e0
   exact ⟨_, rfl, .inl ⟨(wanted_of rfl rfl hgd).trans rfl, Does.val (by simp [execOp, Act.eval, e0, go_sem]) rfl⟩⟩
  ·obtain ⟨k0, k1, kw, -⟩ := hp
   have hgd : a.eval (.tmp 112) = .bool true := kw
   have e0 : a.eval (.tmp 114) = .int .i64 0 := k0
   simp [Act.eval] at e0
   have e1 : a.eval (.tmp 116) = .int .i64 0 := k1
   simp [Act.eval] at e1
   exact ⟨_, rfl, .inl ⟨(wanted_of rfl rfl hgd).trans rfl, Does.val (by simp [execOp, Act.eval, e0, e1, go_sem, show IntKind.i64.wrap 0 = 0 from rfl]) rfl⟩⟩
  ·obtain ⟨k0, k1, -⟩ := hp
   have hgd : a.eval (.tmp 112) = .bool true := k1
   have e0 : a.eval (.tmp 117) = .int .i64 0 := k0
   simp [Act.eval] at e0
   exact ⟨_, rfl, .inl ⟨(wanted_of rfl rfl hgd).trans rfl, Does.val (by simp [execOp, Act.eval, e0, go_sem]) rfl⟩⟩
  ·obtain ⟨k0, k1, -⟩ := hp
   have e0 : a.eval (.tmp 112) = .bool true := k0
   simp [Act.eval] at e0
   have e1 : a.eval (.tmp 118) = .bool true := k1
   simp [Act.eval] at e1
   exact ⟨_, rfl, .inl ⟨wanted_none rfl, Does.val (by simp [execOp, Act.eval, e0, e1, go_sem]) rfl⟩⟩
  ·obtain ⟨k0, -⟩ := hp
   exact ⟨_, rfl, .inl ⟨wanted_none rfl, op_mv (s := SC _) rfl k0⟩⟩
  ·obtain ⟨k0, -⟩ := hp
   have hgd : a.eval (.tmp 120) = .bool true := k0
   exact ⟨_, rfl, .inl ⟨(wanted_of rfl rfl hgd).trans rfl, op_mv (s := SC _) rfl ((hs 13 rfl).trans ev13)⟩⟩
  ·obtain ⟨k0, k1, -⟩ := hp
   have hgd : a.eval (.tmp 120) = .bool true := k1
   exact ⟨_, rfl, .inl ⟨(wanted_of rfl rfl hgd).trans rfl, Does.rv (f := 22) (call1 rfl (fun _ => by simp [go_sem]) k0) (HFT.out wx hBo)⟩⟩
  ·obtain ⟨k0, k1, -⟩ := hp
   have hgd : a.eval (.tmp 120) = .bool true := k1
   have e0 : a.eval (.tmp 122) = .int .i64 1 := k0
   simp [Act.eval] at e0
   exact ⟨_, rfl, .inl ⟨(wanted_of rfl rfl hgd).trans rfl, Does.val (by simp [execOp, Act.eval, e0, go_sem]) rfl⟩⟩
  ·obtain ⟨k0, k1, -⟩ := hp
   have e0 : a.eval (.tmp 120) = .bool true := k0
   simp [Act.eval] at e0
   have e1 : a.eval (.tmp 123) = .bool true := k1
   simp [Act.eval] at e1
   exact ⟨_, rfl, .inl ⟨wanted_none rfl, Does.val (by simp [execOp, Act.eval, e0, e1, go_sem]) rfl⟩⟩
  ·obtain ⟨k0, -⟩ := hp
   exact ⟨_, rfl, .inl ⟨wanted_none rfl, op_mv (s := SC _) rfl k0⟩⟩
  ·obtain ⟨k0, -⟩ := hp
   have hgd : a.eval (.tmp 125) = .bool true := k0
   exact ⟨_, rfl, .inl ⟨(wanted_of rfl rfl hgd).trans rfl, op_mv (s := SC _) rfl ((hs 22 rfl).trans ev22)⟩⟩
  ·obtain ⟨k0, k1, -⟩ := hp
   have hgd : a.eval (.tmp 125) = .bool true := k1
   have e0 : a.eval (.tmp 126) = .int .i64 0 := k0
   simp [Act.eval] at e0
   exact ⟨_, rfl, .inl ⟨(wanted_of rfl rfl hgd).trans rfl, Does.val (by simp [execOp, Act.eval, e0, go_sem]) rfl⟩⟩
  ·obtain ⟨k0, k1, -⟩ := hp
   have e0 : a.eval (.tmp 125) = .bool true := k0
   simp [Act.eval] at e0
   have e1 : a.eval (.tmp 127) = .bool true := k1
   simp [Act.eval] at e1
   exact ⟨_, rfl, .inl ⟨wanted_none rfl, Does.val (by simp [execOp, Act.eval, e0, e1, go_sem]) rfl⟩⟩
  ·obtain ⟨k0, -⟩ := hp
   exact ⟨_, rfl, .inl ⟨wanted_none rfl, op_mv (s := SC _) rfl k0⟩⟩
  ·obtain ⟨k0, -⟩ := hp
   have hgd : a.eval (.tmp 129) = .bool true := k0
   exact ⟨_, rfl, .inl ⟨(wanted_of rfl rfl hgd).trans rfl, op_mv (s := SC _) rfl ((hs 21 rfl).trans ev21)⟩⟩
  ·obtain ⟨k0, k1, -⟩ := hp
   have hgd : a.eval (.tmp 129) = .bool true := k1
   have e0 : a.eval (.tmp 130) = .slice (some ⟨gz, 0, none⟩) 1 cz := k0
   simp [Act.eval] at e0
   exact ⟨_, rfl, .inl ⟨(wanted_of rfl rfl hgd).trans rfl, Does.val (by simp [execOp, Act.eval, e0, go_sem]) rfl⟩⟩
  ·obtain ⟨k0, k1, -⟩ := hp
   have hgd : a.eval (.tmp 129) = .bool true := k1
   have e0 : a.eval (.tmp 131) = .int .i64 1 := k0
   simp [Act.eval] at e0
   exact ⟨_, rfl, .inl ⟨(wanted_of rfl rfl hgd).trans rfl, Does.val (by simp [execOp, Act.eval, e0, go_sem]) rfl⟩⟩
  ·obtain ⟨k0, k1, -⟩ := hp
   have e0 : a.eval (.tmp 129) = .bool true := k0
   simp [Act.eval] at e0
   have e1 : a.eval (.tmp 132) = .bool true := k1
   simp [Act.eval] at e1
   exact ⟨_, rfl, .inl ⟨wanted_none rfl, Does.val (by simp [execOp, Act.eval, e0, e1, go_sem]) rfl⟩⟩
  ·obtain ⟨k0, -⟩ := hp
   exact ⟨_, rfl, .inl ⟨wanted_none rfl, op_mv (s := SC _) rfl k0⟩⟩
  ·obtain ⟨k0, -⟩ := hp
   have hgd : a.eval (.tmp 134) = .bool true := k0
   exact ⟨_, rfl, .inl ⟨(wanted_of rfl rfl hgd).trans rfl, op_mv (s := SC _) rfl ((hs 21 rfl).trans ev21)⟩⟩
  ·obtain ⟨k0, k1, -⟩ := hp
   have hgd : a.eval (.tmp 134) = .bool true := k1
   have e0 : a.eval (.tmp 135) = .slice (some ⟨gz, 0, none⟩) 1 cz := k0
   simp [Act.eval] at e0
   exact ⟨_, rfl, .inl ⟨(wanted_of rfl rfl hgd).trans rfl, Does.val (by simp [execOp, Act.eval, e0, go_sem]) rfl⟩⟩
  ·obtain ⟨k0, k1, -⟩ := hp
   have hgd : a.eval (.tmp 134) = .bool true := k1
   have e0 : a.eval (.tmp 136) = .pointer (some ⟨gz, 0, none⟩) := k0
   simp [Act.eval] at e0
   exact ⟨_, rfl, .inl ⟨(wanted_of rfl rfl hgd).trans rfl, Does.val (by simp [execOp, Act.eval, e0, go_sem, HCZ.out wx hBo]) rfl⟩⟩
  ·obtain ⟨k0, -⟩ := hp
   have hgd : a.eval (.tmp 134) = .bool true := k0
   exact ⟨_, rfl, .inl ⟨(wanted_of rfl rfl hgd).trans rfl, op_mv (s := SC _) rfl ((hs 1 rfl).trans ev1)⟩⟩
  ·obtain ⟨k0, k1, -⟩ := hp
   have hgd : a.eval (.tmp 134) = .bool true := k1
   exact ⟨_, rfl, .inl ⟨(wanted_of rfl rfl hgd).trans rfl, Does.ry (f := 16) (call2 rfl (fun _ => by simp [go_sem]) k0 rfl) (HFW.out wx hBo)⟩⟩
 ·intro val wx hB hsp hdis
  have hBo : Below w13.heap.size w13 wx := dB hW_17 hB
  have e24 : val 24 = .bool true := hsp 24 (by omega)
  have e27 : val 27 = .slice Az L2.length czz := hsp 27 (by omega)
  have h29 : (SY L2) wx (val 29) := hsp 29 (by omega)
  generalize e29 : val 29 = u29 at h29
  rw [← HF_.out]
  change wpList _ _ _ [_, _, _, _, _, _] _ _
  simp only [puts_consT, puts_nilm, vals, List.map_cons, List.map_nil, Nat.zero_add, Nat.reduceAdd, e24, e27, e29, List.setIfInBounds_toArray, List.set_cons_succ, List.set_cons_zero]
  clear hsp hdis HF_ hsz_ hB hW_17 e24 e27 e29 ev1 ev13 ev18 ev19 ev20 ev21 ev22
  have h29' : BV wx u29 L2 := h29
  have hsm := same_bv (HBZ.out.below hBo) h29'
  rw [decide_eq_true rfl] at hsm
  have HSM := Lib.hid hsm
  have kx := Lib.hid (Blw k6.out hBo)
  clear hsm h29 h29' HBZ hBo HFT HFW HCZ k6
  go_wp2_with fail
  refine HSM.out.mono ?_
  rintro e w15 ⟨rfl, n, rfl⟩
  go_wp2_with fail
  refine (lives_any _).mono ?_
  rintro e w16 ⟨rfl, hb⟩
  go_wp2
  go_ret
  exact ⟨rfl, Blw (bdN kx.out n) hb⟩
end Go.Proofs.Ytgdibcgphjmofaa
